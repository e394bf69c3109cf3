/- A part of a proof of a law: lemmas. Conditions: those of each lemma. -/
import Derived.Test.YtfkkcdapcgimlaaGreatDoorBPp2
import Derived.KernelRfl
import Derived.KernelRfl
import Derived.Test.YtfkkcdapcgimlaaGreatDoorCards
import Derived.Test.YtfkkcdapcgimlaaGreatDoorTie
import Derived.Deep.DeepHandedRow
import Derived.ProofKit
set_option linter.all false
set_option maxRecDepth 100000
namespace Go.Proofs.YtfkkcdapcgimlaaGreatDoor
open Go Go.AM
set_option maxRecDepth 100000
set_option maxHeartbeats 4000000
variable {N : Nat}
def ltr (n : Int) : Bool := decide (97 ≤ n ∧ n ≤ 122 ∨ 65 ≤ n ∧ n ≤ 90 ∨ 48 ≤ n ∧ n ≤ 57 ∨ n = 45 ∨ n = 95 ∨ n = 46)
def a9j (s : List UInt8) : Bool := s.all (fun c => ltr (c.toNat : Int)) && decide (1 ≤ s.length ∧ s.length ≤ 60)
def prB (s : List UInt8) : Bool := s.all (fun c => decide (32 ≤ (c.toNat : Int) ∧ (c.toNat : Int) ≤ 126))
def inI (n a b : Int) : Bool := decide (a ≤ n ∧ n ≤ b)
theorem a7W (n a b : Int) : a6b N n a b = inI n a b := by
 unfold a6b d2a inI
 rw [Bool.eq_iff_iff]; simp
theorem d88 (n a b : Int) : c45 N n a b = inI n a b := by
 unfold c45 c0e inI
 rw [Bool.eq_iff_iff]; simp
theorem a7X (n a b : Int) : a9b N n a b = !inI n a b := by
 unfold a9b d2P inI
 rw [Bool.eq_iff_iff]; simp <;> omega
theorem d1o (n : Int) : d2e N n = inI n 1 7 := by
 unfold d2e d2d
 rw [a0o, a7W]
theorem c30 (n : Int) : c8j N n = inI n 1 7 := by
 unfold c8j d2S inI
 rw [Bool.eq_iff_iff]; simp
theorem d1p (c : UInt8) : IntKind.wrap .i64 (c.toNat : Int) = c.toNat := a2i (by omega) (by have := c.toNat_lt; omega)
theorem b7g (hN : maxLen < N) {s : List UInt8} (hs : s.length ≤ maxLen) : c56 N s = some (a9j s) := by
 have h : c8h N s 0 = some (bif s.all (fun c => ltr (c.toNat : Int)) then .inr () else .inl ()) := by
  unfold c8h
  refine (a7G (0 : UInt8) (S := fun w kr => b4s N s w kr _ _) (L := fun m w => c3k N s m w _ _) (fun m w => rfl) (fun _ l => some (bif l.all (fun c => ltr (c.toNat : Int)) then .inr () else .inl ())) hs ?_ ?_ hN).trans rfl
  ·intro kr; simp [b4s]
  ·intro w kr h0 h1 hw hi hk
   simp only [b4s, decide_eq_true h1, _root_.cond_true, hi, a0o, hw, hk, List.all_cons]
   generalize ((s.getD w.toNat 0).toNat : Int) = n
   refine (c0a (c' := !ltr n) ?_).trans ?_
   ·rw [Bool.eq_iff_iff]; simp [ltr]; omega
   ·cases ltr n <;> rfl
 unfold c56 d2O
 rw [h]
 unfold a9j
 cases s.all (fun c => ltr (c.toNat : Int)) with
 | false => rfl
 | true =>
  simp only [a0o, a9z, a9A, _root_.cond_true, _root_.cond_false, Option.isSome_some, Bool.true_and]
  congr 1
  rw [Bool.eq_iff_iff]; simp; omega
theorem b7h (hN : maxLen < N) {s : List UInt8} (hs : s.length ≤ maxLen) : c44 N s = some (a9j s) := by
 have h : c7m N s s.length 0 = some (bif s.all (fun c => ltr (c.toNat : Int)) then .inr () else .inl ()) := by
  unfold c7m
  refine (a7G (0 : UInt8) (S := fun w kr => b39 N s s.length w kr _ _) (L := fun m w => c1R N s s.length m w _ _) (fun m w => rfl) (fun _ l => some (bif l.all (fun c => ltr (c.toNat : Int)) then .inr () else .inl ())) hs ?_ ?_ hN).trans rfl
  ·intro kr; simp [b39]
  ·intro w kr h0 h1 hw hi hk
   simp only [b39, decide_eq_true h1, _root_.cond_true, hi, a0o, hw, hk, List.all_cons, b51, a9B, d98, d15]
   generalize ((s.getD w.toNat 0).toNat : Int) = n
   refine (c0a (c' := !ltr n) ?_).trans ?_
   ·rw [Bool.eq_iff_iff]; simp [ltr]; omega
   ·cases ltr n <;> rfl
 unfold c44 d19
 rw [h]
 unfold a9j
 cases s.all (fun c => ltr (c.toNat : Int)) with
 | false => rfl
 | true =>
  simp only [a0o, a9z, a9A, _root_.cond_true, _root_.cond_false, Option.isSome_some, Bool.true_and]
  congr 1
  rw [Bool.eq_iff_iff]; simp; omega
def d89 (s : List UInt8) : Bool := prB s && decide (1 ≤ s.length ∧ s.length ≤ 60)
theorem e2I (hN : maxLen < N) {s : List UInt8} (hs : s.length ≤ maxLen) : d4Z N s = some (d89 s) := by
 have h : c1W N s s.length 0 = some (bif prB s then .inr () else .inl ()) := by
  unfold c1W
  refine (a7G (0 : UInt8) (S := fun w kr => a9C N s s.length w kr _ _) (L := fun m w => b54 N s s.length m w _ _) (fun m w => rfl) (fun _ l => some (bif prB l then .inr () else .inl ())) hs ?_ ?_ hN).trans rfl
  ·intro kr; simp [a9C, prB]
  ·intro w kr h0 h1 hw hi hk
   simp only [a9C, decide_eq_true h1, _root_.cond_true, hi, a0o, hw, hk, prB, List.all_cons, d1p, d88, inI]
   cases decide (32 ≤ ((s.getD w.toNat 0).toNat : Int) ∧ ((s.getD w.toNat 0).toNat : Int) ≤ 126) <;> rfl
 have h2 : c47 N s = some (prB s && decide (s.length ≤ 60)) := by
  unfold c47 c0f
  rw [h]
  cases prB s with
  | false => rfl
  | true =>
   simp only [a0o, a9z, a9A, _root_.cond_true, _root_.cond_false, Option.isSome_some, Bool.true_and]
   congr 1
   rw [Bool.eq_iff_iff]; simp; omega
 unfold d4Z d2g c1X b4b
 rw [h2]
 unfold d89
 cases s with
 | nil => simp [a0o, prB]
 | cons c r =>
  have : ((c :: r) == ([] : List UInt8)) = false := rfl
  rw [this]
  simp only [a0o, Bool.not_false, _root_.cond_true, Option.isSome_some, getD_some]
  congr 1
  rw [Bool.eq_iff_iff]; simp
theorem c8M (hN : maxLen < N) {s : List UInt8} (hs : s.length ≤ maxLen) : c3q N s 0 = some (bif prB s then .inr () else .inl ()) := by
 unfold c3q
 refine (a7G (0 : UInt8) (S := fun w kr => a9X N s w kr _ _) (L := fun m w => b6F N s m w _ _) (fun m w => rfl) (fun _ l => some (bif prB l then .inr () else .inl ())) hs ?_ ?_ hN).trans rfl
 ·intro kr; simp [a9X, prB]
 ·intro w kr h0 h1 hw hi hk
  simp only [a9X, decide_eq_true h1, _root_.cond_true, hi, a0o, hw, hk, prB, List.all_cons, d1p, a7X, inI]
  cases decide (32 ≤ ((s.getD w.toNat 0).toNat : Int) ∧ ((s.getD w.toNat 0).toNat : Int) ≤ 126) <;> rfl
end Go.Proofs.YtfkkcdapcgimlaaGreatDoor

namespace Go.Proofs.YtfkkcdapcgimlaaGreatDoor
open Go Go.AM
set_option maxRecDepth 100000
set_option maxHeartbeats 4000000
variable {N : Nat}
def a9k (e : Int → Int) : Int → List D → Int
 | _, [] => 0
 | w, _ :: r => bif e w != 0 then e w else a9k e (w + 1) r
def c31 (n : Int) : Sum Int Unit := bif n != 0 then .inl n else .inr ()
theorem c6y {e : Int → Int} {w : Int} {x : D} {l : List D} : c31 (a9k e w (x :: l)) = bif e w != 0 then .inl (e w) else c31 (a9k e (w + 1) l) := by
 simp only [a9k]
 cases h : e w != 0 with
 | true => simp only [_root_.cond_true, c31, h]
 | false => rfl
def leB (a b : List UInt8) : Bool := Op.bytesLess a b || a == b
def tgE (xs : List D) (w : Int) : Int := bif !a9j (xs.getD w.toNat (.i 0)).toS then 8 else bif (bif decide (w > 0) then leB (xs.getD w.toNat (.i 0)).toS (xs.getD (w - 1).toNat (.i 0)).toS else false) then 10 else 0
section
variable {xs : List D} {w : Int}
theorem f2o (h0 : 0 ≤ w) (h1 : w < xs.length) (hl : xs.length ≤ maxLen) : IntKind.wrap .i64 (w - 1) = w - 1 ∧ (bif (inB (w - 1) xs.length) then true else (!((decide (w > 0)) == true))) = true := by
 have hm : maxLen = 9223372036854775807 := rfl
 refine ⟨a2i (by omega) (by omega), ?_⟩
 by_cases hw : w = 0
 ·subst hw
  cases inB ((0 : Int) - 1) xs.length <;> rfl
 ·rw [a1x (by omega) (by omega)]; rfl
theorem c8N (hN : maxLen < N) (hl : xs.length ≤ maxLen) (hx : ∀ j : Nat, ((xs.getD j (.i 0)).toS).length ≤ maxLen) : c2c N xs xs.length xs 0 = some (c31 (a9k (tgE xs) 0 xs)) := by
 unfold c2c
 refine (a7G (.i 0 : D) (S := fun w kr => a9M N xs xs.length xs w kr _ _) (L := fun m w => b6k N xs xs.length xs m w _ _) (fun m w => rfl) (fun w l => some (c31 (a9k (tgE xs) w l))) hl ?_ ?_ hN).trans rfl
 ·intro kr; simp [a9M, a9k, c31]
 ·intro w kr h0 h1 hw hi hk
  obtain ⟨e1, e2⟩ := f2o h0 h1 hl
  simp only [a9M, decide_eq_true h1, _root_.cond_true, hi, a0o, hw, hk, b7h hN (hx w.toNat), Option.isSome_some, getD_some, c6y, e1, e2]
  unfold tgE leB
  cases a9j (xs.getD w.toNat (.i 0)).toS with
  | false => rfl
  | true => cases (bif decide (w > 0) then (Op.bytesLess (xs.getD w.toNat (.i 0)).toS (xs.getD (w - 1).toNat (.i 0)).toS || (xs.getD w.toNat (.i 0)).toS == (xs.getD (w - 1).toNat (.i 0)).toS) else false) <;> rfl
theorem c8O (hN : maxLen < N) (hl : xs.length ≤ maxLen) (hx : ∀ j : Nat, ((xs.getD j (.i 0)).toS).length ≤ maxLen) : c3y N xs xs.length xs 0 = some (c31 (a9k (tgE xs) 0 xs)) := by
 unfold c3y
 refine (a7G (.i 0 : D) (S := fun w kr => a94 N xs xs.length xs w kr _ _) (L := fun m w => b6Q N xs xs.length xs m w _ _) (fun m w => rfl) (fun w l => some (c31 (a9k (tgE xs) w l))) hl ?_ ?_ hN).trans rfl
 ·intro kr; simp [a94, a9k, c31]
 ·intro w kr h0 h1 hw hi hk
  obtain ⟨e1, e2⟩ := f2o h0 h1 hl
  simp only [a94, decide_eq_true h1, _root_.cond_true, hi, a0o, hw, hk, b7g hN (hx w.toNat), Option.isSome_some, getD_some, c6y, e1, e2]
  unfold tgE leB
  cases a9j (xs.getD w.toNat (.i 0)).toS with
  | false => rfl
  | true => cases (bif decide (w > 0) then (Op.bytesLess (xs.getD w.toNat (.i 0)).toS (xs.getD (w - 1).toNat (.i 0)).toS || (xs.getD w.toNat (.i 0)).toS == (xs.getD (w - 1).toNat (.i 0)).toS) else false) <;> rfl
end
theorem c8P (hN : 4 < N) (a b c d : Int) : c2b N 4 [(.i a), (.i b), (.i c), (.i d)] 0 = some (bif inI a 0 10000000000000 && inI b 0 10000000000000 && inI c 0 10000000000000 && inI d 0 10000000000000 then .inr () else .inl ()) := by
 obtain ⟨M, rfl⟩ : ∃ M, N = M + 5 := ⟨N - 5, by omega⟩
 have w1 : IntKind.wrap .i64 (0 + 1) = 1 := a2i (by omega) (by omega)
 have w2 : IntKind.wrap .i64 (1 + 1) = 2 := a2i (by omega) (by omega)
 have w3 : IntKind.wrap .i64 (2 + 1) = 3 := a2i (by omega) (by omega)
 have w4 : IntKind.wrap .i64 (3 + 1) = 4 := a2i (by omega) (by omega)
 have e : ∀ K, b2f K (R := Sum Unit Unit) 4 [(.i a), (.i b), (.i c), (.i d)] (M + 5) 0 (fun p => some (.inl p)) (fun p => some (.inr p)) = some (bif inI a 0 10000000000000 && inI b 0 10000000000000 && inI c 0 10000000000000 && inI d 0 10000000000000 then .inr () else .inl ()) := by
  intro K
  have w1' := w1
  have w2' := w2
  have w3' := w3
  have w4' := w4
  simp at w1' w2' w3' w4'
  simp [b2f, b6i, a7W, a0o, D.toI, inB, w1', w2', w3', w4']
  cases inI a 0 10000000000000 <;> cases inI b 0 10000000000000 <;> cases inI c 0 10000000000000 <;> cases inI d 0 10000000000000 <;> rfl
 unfold c2b
 exact e _
def e4m (v0 : List UInt8) (v1 v2 v3 v4 v5 v6 : Int) (v8 : List D) : Int :=
 bif !a9j v0 then 8 else bif !inI v1 1 5 then 7 else bif !(inI v2 0 86399999999 && (inI v3 0 10000000000000 && inI v4 0 10000000000000 && inI v5 0 10000000000000 && inI v6 0 10000000000000)) then 9 else bif decide ((v8.length : Int) > 20) then 3 else a9k (tgE v8) 0 v8
theorem b3L {n : Int} {k : Int → Option Int} {z : Option Int} : (bif a0T (some (c31 n)) then k (a0H (some (c31 n))) else bif (a0l (some (c31 n))).isSome then k 0 else z) = k n := by
 unfold c31
 cases h : n != 0 with
 | true => rfl
 | false =>
  have : n = 0 := by simpa using h
  subst this; rfl
section
variable {v0 : List UInt8} {v1 v2 v3 v4 v5 v6 : Int} {v8 : List D}
theorem e2J (hN : maxLen < N) (h0 : v0.length ≤ maxLen) (hl : v8.length ≤ maxLen) (hx : ∀ j : Nat, ((v8.getD j (.i 0)).toS).length ≤ maxLen) : d5E N v0 v1 v2 v3 v4 v5 v6 v8 = some (e4m v0 v1 v2 v3 v4 v5 v6 v8) := by
 have hm : maxLen = 9223372036854775807 := rfl
 unfold d5E d5D e4m
 rw [b7h hN h0, c8P (by omega), c8N hN hl hx]
 simp only [a0o, Option.isSome_some, _root_.cond_true, getD_some, a7W]
 cases a9j v0 with
 | false => rfl
 | true =>
 cases inI v1 1 5 with
 | false => rfl
 | true =>
 cases inI v2 0 86399999999 with
 | false => rfl
 | true =>
 cases (inI v3 0 10000000000000 && inI v4 0 10000000000000 && inI v5 0 10000000000000 && inI v6 0 10000000000000) with
 | false => rfl
 | true =>
 cases decide ((v8.length : Int) > 20) with
 | true => rfl
 | false => exact b3L
theorem c8Q : b3i N v2 v3 v4 v5 v6 = !(inI v2 0 86399999999 && (inI v3 0 10000000000000 && inI v4 0 10000000000000 && inI v5 0 10000000000000 && inI v6 0 10000000000000)) := by
 unfold b3i b3h
 simp only [a0o, a7X]
 cases inI v2 0 86399999999 <;> cases inI v3 0 10000000000000 <;> cases inI v4 0 10000000000000 <;> cases inI v5 0 10000000000000 <;> cases inI v6 0 10000000000000 <;> rfl
theorem e2K (hN : maxLen < N) (h0 : v0.length ≤ maxLen) (hl : v8.length ≤ maxLen) (hx : ∀ j : Nat, ((v8.getD j (.i 0)).toS).length ≤ maxLen) : d7T N v0 v1 v2 v3 v4 v5 v6 v8 = some (e4m v0 v1 v2 v3 v4 v5 v6 v8) := by
 unfold d7T d7S e4m
 rw [b7g hN h0, c8O hN hl hx, c8Q]
 simp only [a0o, Option.isSome_some, _root_.cond_true, getD_some, a7X]
 cases a9j v0 with
 | false => rfl
 | true =>
 cases inI v1 1 5 with
 | false => rfl
 | true =>
 cases (inI v2 0 86399999999 && (inI v3 0 10000000000000 && inI v4 0 10000000000000 && inI v5 0 10000000000000 && inI v6 0 10000000000000)) with
 | false => rfl
 | true =>
 cases decide ((v8.length : Int) > 20) with
 | true => rfl
 | false => exact b3L
end
theorem e2L (hN : 2 < N) (a b : Int) : d5O N [(.i a), (.i b)] = some (bif a != 0 then a else b) := by
 obtain ⟨M, rfl⟩ : ∃ M, N = M + 3 := ⟨N - 3, by omega⟩
 unfold d5O d2x d5M
 have w1 : IntKind.wrap .i64 (0 + 1) = 1 := a2i (by omega) (by omega)
 have w2 : IntKind.wrap .i64 (1 + 1) = 2 := a2i (by omega) (by omega)
 have e : ∀ K, b8j K (R := Sum Int Unit) 0 [(.i a), (.i b)] (([(.i a), (.i b)] : List D).length : Int) (M + 3) 0 (fun p => some (.inl p)) (fun p => some (.inr p)) = some (bif a != 0 then .inl a else bif b != 0 then .inl b else .inr ()) := by
  intro K
  have w1' := w1
  have w2' := w2
  simp at w1' w2'
  simp [b8j, c2g, D.toI, inB, w1', w2']
  cases a != 0 <;> cases b != 0 <;> rfl
 rw [e]
 simp only [a0o]
 cases ha : a != 0 with
 | true => rfl
 | false =>
  cases hb : b != 0 with
  | true => rfl
  | false =>
   have : b = 0 := by simpa using hb
   subst this; rfl
end Go.Proofs.YtfkkcdapcgimlaaGreatDoor

namespace Go.Proofs.YtfkkcdapcgimlaaGreatDoor
open Go Go.AM
set_option maxRecDepth 100000
set_option maxHeartbeats 4000000
variable {N : Nat}
theorem c8R (x : D) : 1 ≤ szD x := by
 cases x <;> simp [szD]
theorem a5g : ∀ {l : List D} {x : D}, x ∈ l → szD x ≤ a2X l
 | y :: l, x, h => by
  simp only [a2X]
  rcases List.mem_cons.1 h with rfl | h
  ·omega
  ·have := a5g h; omega
theorem b0i : ∀ l : List D, l.length ≤ a2X l
 | [] => Nat.zero_le _
 | x :: l => by have := b0i l; have := c8R x; simp only [a2X, List.length_cons]; omega
theorem d1q (x : D) (j : Nat) : x.cell j = .i 0 ∨ szD (x.cell j) < szD x := by
 cases x with
 | a cs =>
  simp only [D.cell, szD]
  by_cases hj : j < cs.length
  ·right
   have : cs.getD j (.i 0) ∈ cs := by rw [List.getD_eq_getElem?_getD, List.getElem?_eq_getElem hj]; exact List.getElem_mem hj
   have := a5g this
   omega
  ·left; rw [List.getD_eq_getElem?_getD, List.getElem?_eq_none (by omega)]; rfl
 | _ => left; rfl
theorem a7Y (x : D) (j : Nat) : a2X (x.cell j).items < szD x := by
 have h1 := c8R x
 rcases d1q x j with h | h
 ·rw [h]; exact h1
 ·cases hc : x.cell j with
  | l nl xs => rw [hc] at h; simp only [szD] at h; simp only [D.items]; omega
  | _ => exact h1
theorem d9a (x : D) (j : Nat) : (x.cell j).toS.length < szD x := by
 have h1 := c8R x
 rcases d1q x j with h | h
 ·rw [h]; exact h1
 ·cases hc : x.cell j with
  | s l => rw [hc] at h; simp only [szD] at h; simp only [D.toS]; omega
  | _ => exact h1
theorem a0R {l : List D} {w : Int} (h0 : 0 ≤ w) (h1 : w < l.length) : l.getD w.toNat (.i 0) ∈ l := by
 have hl : w.toNat < l.length := by omega
 rw [List.getD_eq_getElem?_getD, List.getElem?_eq_getElem hl]; exact List.getElem_mem hl
theorem e7M {X : Type} {xs : List D} {S : Int → (Int → X) → X} {L : Nat → Int → X} (hL : ∀ m a, L (m + 1) a = S a (L m)) (spec : Int → List D → X) (hlen : xs.length ≤ maxLen)
  (hend : ∀ kr, S xs.length kr = spec xs.length [])
  (hstep : ∀ (w : Int) (kr : Int → X) (x : D) (r : List D), x ∈ xs → 0 ≤ w → w < xs.length → IntKind.wrap .i64 (w + 1) = w + 1 → inB w xs.length = true → xs.getD w.toNat (.i 0) = x → xs.drop (w + 1).toNat = r → kr (w + 1) = spec (w + 1) r → S w kr = spec w (x :: r))
  {N : Nat} (hN : maxLen < N) : L N 0 = spec 0 xs :=
 a7G (.i 0 : D) hL spec hlen hend (fun w kr h0 h1 h2 h3 h4 => hstep w kr _ _ (a0R h0 h1) h0 h1 h2 h3 rfl rfl h4) hN
theorem a1Q {A X : Type} {S : A → (A → X) → X} {L : Nat → A → X} (hL : ∀ m a, L (m + 1) a = S a (L m)) (P : A → X → Prop) (Inv : A → Prop) (μ : A → Nat)
  (h : ∀ a kr, Inv a → (∀ a', Inv a' → μ a' < μ a → P a' (kr a')) → P a (S a kr)) : ∀ (m : Nat) (a : A), Inv a → μ a < m → P a (L m a) := by
 intro m
 induction m with
 | zero => intro a _ h; omega
 | succ m ih => intro a ha hm; rw [hL]; exact h a (L m) ha fun a' h1 h2 => ih a' h1 (by omega)
def cnt : Nat → List D → Nat
 | 0, _ => 1
 | m + 1, l => 1 + (l.map fun x => cnt m (x.cell 5).items).sum
theorem e4n {l : List D} {f : D → Nat} (h : ∀ x ∈ l, f x ≤ szD x) : (l.map f).sum ≤ a2X l := by
 induction l with
 | nil => simp [a2X]
 | cons x l ih =>
  have h1 := h x (by simp)
  have h2 := ih fun y hy => h y (by simp [hy])
  simp only [List.map_cons, List.sum_cons, a2X]
  omega
theorem e4o : ∀ (m : Nat) (l : List D), cnt m l ≤ a2X l + 1
 | 0, l => by simp [cnt]
 | m + 1, l => by
  have := e4n (l := l) (f := fun x => cnt m (x.cell 5).items) fun x _ => by
   have h1 := e4o m (x.cell 5).items
   have h2 := a7Y x 5
   omega
  simp only [cnt]
  omega
theorem c09 : ∀ (m m' : Nat) (l : List D), a2X l < m → a2X l < m' → cnt m l = cnt m' l
 | 0, _, _, h, _ => by omega
 | _, 0, _, _, h => by omega
 | m + 1, m' + 1, l, h, h' => by
  simp only [cnt]
  congr 2
  refine List.map_congr_left fun x hx => ?_
  have h1 := a7Y x 5
  have h2 := a5g hx
  exact c09 m m' _ (by omega) (by omega)
def cn (l : List D) : Nat := cnt (a2X l + 1) l
theorem f2p (l : List D) : 1 ≤ cn l := by unfold cn; simp only [cnt]; omega
theorem f3W (l : List D) : cn l ≤ a2X l + 1 := e4o _ _
theorem f2q (l : List D) : cn l = 1 + (l.map fun x => cn (x.cell 5).items).sum := by
 show 1 + _ = _
 congr 2
 refine List.map_congr_left fun x hx => ?_
 have h1 := a7Y x 5
 have h2 := a5g hx
 exact c09 _ _ _ (by omega) (by omega)
abbrev cns (l : List D) : Nat := (l.map fun x => cn (x.cell 5).items).sum
theorem e4p (l : List D) : cns l ≤ a2X l := e4n fun x _ => by
 have h1 := f3W (x.cell 5).items
 have h2 := a7Y x 5
 omega
theorem d9b (hN : maxLen < N) : ∀ (m : Nat) (v0 v1 v2 v3 : Int) (v4 : List UInt8) (v5 : Bool) (v6 : List D), a2X v6 < m → a2X v6 ≤ 2097152 → b9h N m v0 v1 v2 v3 v4 v5 v6 = some (cn v6 : Int)
 | 0, _, _, _, _, _, _, _, h, _ => by omega
 | m + 1, v0, v1, v2, v3, v4, v5, v6, h, hM => by
  have hm : maxLen = 9223372036854775807 := rfl
  have hlen := b0i v6
  have hall := e4p v6
  show d2c N (b9h N m) v0 v1 v2 v3 v4 v5 v6 = _
  unfold d2c d4Q
  have e : c7n N (b9h N m) v6 (v6.length : Int) 1 0 = some (1 + (cns v6 : Int)) := by
   unfold c7n
   have := a3O (A := Int × Int) (S := fun a kr => b4a N (b9h N m) v6 (v6.length : Int) a.1 a.2 (fun x y => kr (x, y)) (fun p => some p)) (L := fun f a => c1U N (b9h N m) v6 (v6.length : Int) f a.1 a.2 (fun p => some p)) (fun f a => rfl)
    (fun a => some (a.1 + (cns (v6.drop a.2.toNat) : Int))) (fun a => 0 ≤ a.2 ∧ a.2 ≤ v6.length ∧ 0 ≤ a.1 ∧ a.1 + (cns (v6.drop a.2.toNat) : Int) ≤ 2097153) (fun a => (v6.length - a.2).toNat) (fun ⟨a, w⟩ kr ⟨h0, h1, h2, h3⟩ ih => by
     simp only at h0 h1 h2 h3 ⊢
     by_cases hw : w < v6.length
     ·have hd := a2y (.i 0 : D) h0 hw
      rw [hd] at h3 ⊢
      simp only [cns, List.map_cons, List.sum_cons] at h3 ⊢
      have hx := a0R h0 hw
      have k1 := a7Y (v6.getD w.toNat (.i 0)) 5
      have k2 := a5g hx
      simp only [b4a, decide_eq_true hw, _root_.cond_true, a1x h0 hw, a0o]
      rw [d9b hN m _ _ _ _ _ _ _ (by omega) (by omega)]
      simp only [Option.isSome_some, _root_.cond_true, getD_some]
      rw [a2i (by omega) (by omega), a2i (by omega) (by omega), ih (_, _) ⟨by simp only; omega, by simp only; omega, by simp only; omega, by simp only [cns]; omega⟩ (by simp only; omega)]
      simp only [cns]
      congr 1
      omega
     ·have : w = v6.length := by omega
      subst this
      simp only [b4a]
      rw [decide_eq_false hw, a1y hw]
      simp [cns]) N (1, 0) ⟨by simp, by simp, by simp, by simp only [Int.toNat_zero, List.drop_zero]; omega⟩ (by simp only; omega)
   simpa using this
  rw [e]
  simp only [a0o, Option.isSome_some, _root_.cond_true, getD_some]
  rw [f2q]
  congr 1
theorem d9c (hN : maxLen < N) : ∀ (m : Nat) (v0 v1 v2 v3 : Int) (v4 : List UInt8) (v5 : Bool) (v6 : List D) (v7 : Int), a2X v6 < m → a2X v6 ≤ 2097152 → 1 ≤ v7 → v7 ≤ 101 → b9y N m v0 v1 v2 v3 v4 v5 v6 v7 = some (min (cn v6 : Int) v7)
 | 0, _, _, _, _, _, _, _, _, h, _, _, _ => by omega
 | m + 1, v0, v1, v2, v3, v4, v5, v6, v7, h, hM, hv, hv' => by
  have hm : maxLen = 9223372036854775807 := rfl
  have hlen := b0i v6
  have hall := e4p v6
  show d2R N (b9y N m) v0 v1 v2 v3 v4 v5 v6 v7 = _
  unfold d2R d7d
  have e : ∃ z, c8i N (b9y N m) v7 v6 (v6.length : Int) 1 0 = some z ∧ (z = .inl () ∧ v7 ≤ 1 + (cns v6 : Int) ∨ z = .inr (min (1 + (cns v6 : Int)) v7)) := by
   unfold c8i
   have := a1Q (A := Int × Int) (S := fun a kr => b4t N (b9y N m) v7 v6 (v6.length : Int) a.1 a.2 (fun x y => kr (x, y)) (fun p => some (Sum.inl p)) (fun p => some (Sum.inr p))) (L := fun f a => c3n N (b9y N m) v7 v6 (v6.length : Int) f a.1 a.2 (fun p => some (Sum.inl p)) (fun p => some (Sum.inr p))) (fun f a => rfl)
    (fun a X => ∃ z, X = some z ∧ (z = .inl () ∧ v7 ≤ a.1 + (cns (v6.drop a.2.toNat) : Int) ∨ z = .inr (min (a.1 + (cns (v6.drop a.2.toNat) : Int)) v7))) (fun a => 0 ≤ a.2 ∧ a.2 ≤ v6.length ∧ 1 ≤ a.1 ∧ a.1 ≤ v7) (fun a => (v6.length - a.2).toNat) (fun ⟨a, w⟩ kr ⟨h0, h1, h2, h3⟩ ih => by
     simp only at h0 h1 h2 h3 ⊢
     by_cases hw : w < v6.length
     ·have hd := a2y (.i 0 : D) h0 hw
      rw [hd]
      simp only [cns, List.map_cons, List.sum_cons]
      have hx := a0R h0 hw
      have k1 := a7Y (v6.getD w.toNat (.i 0)) 5
      have k2 := a5g hx
      have k3 := f2p ((v6.getD w.toNat (.i 0)).cell 5).items
      simp only [b4t, decide_eq_true hw, _root_.cond_true, a1x h0 hw, a0o]
      by_cases hge : a ≥ v7
      ·rw [decide_eq_true hge]
       exact ⟨_, rfl, .inl ⟨rfl, by omega⟩⟩
      ·rw [decide_eq_false hge]
       simp only [_root_.cond_false]
       rw [a2i (by omega) (by omega), d9c hN m _ _ _ _ _ _ _ _ (by omega) (by omega) (by omega) (by omega)]
       simp only [Option.isSome_some, _root_.cond_true, getD_some]
       rw [a2i (by omega) (by omega), a2i (by omega) (by omega)]
       obtain ⟨z, z1, z2⟩ := ih (a + min (cn ((v6.getD w.toNat (.i 0)).cell 5).items : Int) (v7 - a), w + 1) ⟨by simp only; omega, by simp only; omega, by simp only; omega, by simp only; omega⟩ (by simp only; omega)
       refine ⟨z, z1, ?_⟩
       simp only [cns] at z2
       rcases z2 with ⟨z3, z4⟩ | z3
       ·exact .inl ⟨z3, by omega⟩
       ·refine .inr (z3.trans ?_)
        congr 1
        omega
     ·have : w = v6.length := by omega
      subst this
      simp only [b4t]
      rw [decide_eq_false hw, a1y hw]
      exact ⟨_, rfl, .inr (by simp [cns]; omega)⟩) N (1, 0) ⟨by simp, by simp, by simp, by simpa using hv⟩ (by simp only; omega)
   simpa using this
  obtain ⟨z, e1, e2⟩ := e
  rw [e1, f2q]
  simp only [a0o]
  rcases e2 with ⟨rfl, e3⟩ | rfl
  ·show some v7 = _
   congr 1
   have : (List.map (fun x => cn (x.cell 5).items) v6).sum = cns v6 := rfl
   push_cast
   omega
  ·show some _ = _
   congr 1
end Go.Proofs.YtfkkcdapcgimlaaGreatDoor

namespace Go.Proofs.YtfkkcdapcgimlaaGreatDoor
open Go Go.AM
set_option maxRecDepth 100000
set_option maxHeartbeats 4000000
variable {N : Nat}
def ndE (v0 v1 v2 v3 : Int) (v4 : List UInt8) (n : Nat) : Int :=
 bif !inI v0 1 7 then 7 else
 bif v0 == 4 && !inI v2 1 5 then 7 else
 bif v0 == 5 && !a9j v4 then 8 else
 bif v0 == 6 && !d89 v4 then 2 else
 bif v0 == 7 && !inI v1 1 7 then 7 else
 bif v0 == 7 && (!inI v2 (-1000000000000000) 1000000000000000 || !inI v3 (-1000000000000000) 1000000000000000 || decide (v2 > v3)) then 9 else
 bif (v0 != 7 && (v1 != 0 || v3 != 0)) || (v0 != 7 && v0 != 4 && v2 != 0) || (v0 != 5 && v0 != 6 && !(v4 == ([] : List UInt8))) || (decide (v0 > 3) && decide ((n : Int) > 0)) || (v0 == 3 && (n : Int) != 1) then 2 else 0
section
variable {v0 v1 v2 v3 : Int} {v4 : List UInt8} {v6 : List D}
theorem d1r (h : inI v0 1 7 = true) : v0 = 1 ∨ v0 = 2 ∨ v0 = 3 ∨ v0 = 4 ∨ v0 = 5 ∨ v0 = 6 ∨ v0 = 7 := by
 unfold inI at h
 simp at h
 omega
theorem c8S : b23 N v2 v3 = (!inI v2 (-1000000000000000) 1000000000000000 || !inI v3 (-1000000000000000) 1000000000000000 || decide (v2 > v3)) := by
 unfold b23 a9Y
 simp only [a0o, a7X]
 cases inI v2 (-1000000000000000) 1000000000000000 <;> cases inI v3 (-1000000000000000) 1000000000000000 <;> rfl
theorem e2M (s : List UInt8) : (bif (decide ((s.length : Int) < 1)) then true else (decide ((s.length : Int) > 60))) = !decide (1 ≤ s.length ∧ s.length ≤ 60) := by
 by_cases h1 : (s.length : Int) < 1
 ·rw [decide_eq_true h1, decide_eq_false (show ¬ (1 ≤ s.length ∧ s.length ≤ 60) by omega)]; rfl
 ·by_cases h2 : (s.length : Int) > 60
  ·rw [decide_eq_false h1, decide_eq_true h2, decide_eq_false (show ¬ (1 ≤ s.length ∧ s.length ≤ 60) by omega)]; rfl
  ·rw [decide_eq_false h1, decide_eq_false h2, decide_eq_true (show (1 ≤ s.length ∧ s.length ≤ 60) by omega)]; rfl
theorem e2N (hN : maxLen < N) (h4 : v4.length ≤ maxLen) : d7q N v0 v1 v2 v3 v4 v6 = some (ndE v0 v1 v2 v3 v4 v6.length) := by
 unfold d7q d7p ndE
 rw [a7X]
 simp only [a0o]
 cases hk : inI v0 1 7 with
 | false => rfl
 | true =>
 unfold a7T a5Y a7S a5X a7R a5W b6H b24
 rw [b7g hN h4, c8M hN h4]
 simp only [a0o, a7X, c30, c8S, e2M, Option.isSome_some, getD_some, _root_.cond_true]
 rcases d1r hk with rfl | rfl | rfl | rfl | rfl | rfl | rfl
 ·simp [a0T, a0l, a0H]
  cases v1 != 0 <;> cases v2 != 0 <;> cases v3 != 0 <;> cases v4.isEmpty <;> rfl
 ·simp [a0T, a0l, a0H]
  cases v1 != 0 <;> cases v2 != 0 <;> cases v3 != 0 <;> cases v4.isEmpty <;> rfl
 ·simp [a0T, a0l, a0H]
  cases v1 != 0 <;> cases v2 != 0 <;> cases v3 != 0 <;> cases v4.isEmpty <;> cases (v6.length : Int) != 1 <;> rfl
 ·cases inI v2 1 5 <;> simp [a0T, a0l, a0H]
  cases v1 != 0 <;> cases v3 != 0 <;> cases v4.isEmpty <;> cases decide (0 < v6.length) <;> rfl
 ·cases a9j v4 <;> simp [a0T, a0l, a0H]
  cases v1 != 0 <;> cases v2 != 0 <;> cases v3 != 0 <;> cases decide (0 < v6.length) <;> rfl
 ·unfold d89
  cases prB v4 <;> cases decide (1 ≤ v4.length ∧ v4.length ≤ 60) <;> simp [a0T, a0l, a0H]
  cases v1 != 0 <;> cases v2 != 0 <;> cases v3 != 0 <;> cases decide (0 < v6.length) <;> rfl
 ·cases inI v1 1 7 <;> cases inI v2 (-1000000000000000) 1000000000000000 <;> cases inI v3 (-1000000000000000) 1000000000000000 <;> cases decide (v2 > v3) <;> simp [a0T, a0l, a0H]
  cases v4.isEmpty <;> cases decide (0 < v6.length) <;> rfl
theorem d9d (hN : maxLen < N) (h4 : v4.length ≤ maxLen) {rc : a0p} {v5 : Bool} {v7 : Int} : c7y N rc v0 v1 v2 v3 v4 v5 v6 v7 =
  bif ndE v0 v1 v2 v3 v4 v6.length != 0 then some (ndE v0 v1 v2 v3 v4 v6.length) else bif decide (v7 > 20) then some 3 else
   bif a0T (a7L N rc v7 v6 (v6.length : Int) 0) then some (a0H (a7L N rc v7 v6 (v6.length : Int) 0)) else bif (a0l (a7L N rc v7 v6 (v6.length : Int) 0)).isSome then some 0 else none := by
 unfold c7y d5c ndE
 simp only [a0o, a7W]
 generalize a7L N rc v7 v6 (v6.length : Int) 0 = g
 cases hk : inI v0 1 7 with
 | false => rfl
 | true =>
 unfold b56 a9D a7H a4i b57 a9E b58 a9F b59 a9G b6a a9H a7K a5B a7J a5A a7I a4j
 rw [b7h hN h4, e2I hN h4]
 simp only [a0o, a7W, d1o, Option.isSome_some, getD_some, _root_.cond_true]
 have e1 : inI 1 1 3 = true := rfl
 have e2 : inI 2 1 3 = true := rfl
 have e3 : inI 3 1 3 = true := rfl
 have e4 : inI 4 1 3 = false := rfl
 have e5 : inI 5 1 3 = false := rfl
 have e6 : inI 6 1 3 = false := rfl
 have e7 : inI 7 1 3 = false := rfl
 rcases d1r hk with rfl | rfl | rfl | rfl | rfl | rfl | rfl
 ·simp [e1]
  cases v1 != 0 <;> cases v2 != 0 <;> cases v3 != 0 <;> cases v4.isEmpty <;> rfl
 ·simp [e2]
  cases v1 != 0 <;> cases v2 != 0 <;> cases v3 != 0 <;> cases v4.isEmpty <;> rfl
 ·simp [e3]
  cases v1 != 0 <;> cases v2 != 0 <;> cases v3 != 0 <;> cases v4.isEmpty <;> cases (v6.length : Int) != 1 <;> rfl
 ·cases inI v2 1 5 <;> simp [e4]
  cases v1 != 0 <;> cases v3 != 0 <;> cases v4.isEmpty <;> cases decide (0 < v6.length) <;> rfl
 ·cases a9j v4 <;> simp [e5]
  cases v1 != 0 <;> cases v2 != 0 <;> cases v3 != 0 <;> cases decide (0 < v6.length) <;> rfl
 ·cases d89 v4 <;> simp [e6]
  cases v1 != 0 <;> cases v2 != 0 <;> cases v3 != 0 <;> cases decide (0 < v6.length) <;> rfl
 ·cases inI v1 1 7 <;> cases inI v2 (-1000000000000000) 1000000000000000 <;> cases inI v3 (-1000000000000000) 1000000000000000 <;> cases decide (v2 > v3) <;> simp [e7]
  cases v4.isEmpty <;> cases decide (0 < v6.length) <;> rfl
theorem d9e (hN : maxLen < N) (h4 : v4.length ≤ maxLen) {rc : a3i} {v5 : Bool} {v7 : Int} : c8q N rc v0 v1 v2 v3 v4 v5 v6 v7 =
  bif ndE v0 v1 v2 v3 v4 v6.length != 0 then some (ndE v0 v1 v2 v3 v4 v6.length) else bif decide (v7 > 20) then some 3 else
   bif a0T (a90 N rc v7 v6 (v6.length : Int) 0) then some (a0H (a90 N rc v7 v6 (v6.length : Int) 0)) else bif (a0l (a90 N rc v7 v6 (v6.length : Int) 0)).isSome then some 0 else none := by
 unfold c8q d7v
 rw [e2N hN h4]
 rfl
end
abbrev k0 (x : D) : Int := (x.cell 0).toI
abbrev k1 (x : D) : Int := (x.cell 1).toI
abbrev k2 (x : D) : Int := (x.cell 2).toI
abbrev k3 (x : D) : Int := (x.cell 3).toI
abbrev k4 (x : D) : List UInt8 := (x.cell 4).toS
abbrev k5 (x : D) : Bool := (x.cell 5).isNil
abbrev k6 (x : D) : List D := (x.cell 5).items
theorem a7q (hN : maxLen < N) : ∀ (m m' : Nat) (v0 v1 v2 v3 : Int) (v4 : List UInt8) (v5 : Bool) (v6 : List D) (v7 : Int), a2X v6 < m → a2X v6 < m' → a2X v6 ≤ 2097152 → v4.length ≤ maxLen → 0 ≤ v7 → v7 ≤ 21 →
  ∃ e, b9i N m v0 v1 v2 v3 v4 v5 v6 v7 = some e ∧ b0v N m' v0 v1 v2 v3 v4 v5 v6 v7 = some e ∧
   (e = 0 → ndE v0 v1 v2 v3 v4 v6.length = 0 ∧ v7 ≤ 20 ∧ ∀ x ∈ v6, ∀ n, a2X (k6 x) < n → b0v N n (k0 x) (k1 x) (k2 x) (k3 x) (k4 x) (k5 x) (k6 x) (v7 + 1) = some 0)
 | 0, _, _, _, _, _, _, _, _, _, h, _, _, _, _, _ => by omega
 | _, 0, _, _, _, _, _, _, _, _, _, h, _, _, _, _ => by omega
 | m + 1, m' + 1, v0, v1, v2, v3, v4, v5, v6, v7, h, h', hM, h4, hv, hv' => by
  have hm : maxLen = 9223372036854775807 := rfl
  have hlen := b0i v6
  show ∃ e, c7y N (b9i N m) v0 v1 v2 v3 v4 v5 v6 v7 = some e ∧ c8q N (b0v N m') v0 v1 v2 v3 v4 v5 v6 v7 = some e ∧ _
  rw [d9d hN h4, d9e hN h4]
  cases hnd : ndE v0 v1 v2 v3 v4 v6.length != 0 with
  | true => exact ⟨_, rfl, rfl, fun h0 => by rw [h0] at hnd; cases hnd⟩
  | false =>
  by_cases h20 : v7 > 20
  ·rw [decide_eq_true h20]
   exact ⟨3, rfl, rfl, fun h0 => by omega⟩
  ·rw [decide_eq_false h20]
   simp only [_root_.cond_false]
   have hnd : ndE v0 v1 v2 v3 v4 v6.length = 0 := by simpa using hnd
   have e : ∃ z, a7L N (b9i N m) v7 v6 (v6.length : Int) 0 = some (c31 z) ∧ a90 N (b0v N m') v7 v6 (v6.length : Int) 0 = some (c31 z) ∧ (z = 0 → ∀ x ∈ v6.drop (0 : Int).toNat, ∀ n, a2X (k6 x) < n → b0v N n (k0 x) (k1 x) (k2 x) (k3 x) (k4 x) (k5 x) (k6 x) (v7 + 1) = some 0) := by
    unfold a7L a90
    have := a1Q (A := Int) (X := Option (Sum Int Unit) × Option (Sum Int Unit))
     (S := fun w kr => (a9I N (b9i N m) v7 v6 (v6.length : Int) w (fun w => (kr w).1) (fun p => some (Sum.inl p)) (fun p => some (Sum.inr p)), a9Z N (b0v N m') v7 v6 (v6.length : Int) w (fun w => (kr w).2) (fun p => some (Sum.inl p)) (fun p => some (Sum.inr p))))
     (L := fun f w => (b6b N (b9i N m) v7 v6 (v6.length : Int) f w (fun p => some (Sum.inl p)) (fun p => some (Sum.inr p)), b6I N (b0v N m') v7 v6 (v6.length : Int) f w (fun p => some (Sum.inl p)) (fun p => some (Sum.inr p)))) (fun f a => rfl)
     (fun w X => ∃ z, X.1 = some (c31 z) ∧ X.2 = some (c31 z) ∧ (z = 0 → ∀ x ∈ v6.drop w.toNat, ∀ n, a2X (k6 x) < n → b0v N n (k0 x) (k1 x) (k2 x) (k3 x) (k4 x) (k5 x) (k6 x) (v7 + 1) = some 0))
     (fun w => 0 ≤ w ∧ w ≤ v6.length) (fun w => (v6.length - w).toNat) (fun w kr ⟨h0, h1⟩ ih => by
      by_cases hw : w < v6.length
      ·have hd := a2y (.i 0 : D) h0 hw
       have hx := a0R h0 hw
       generalize hxx : v6.getD w.toNat (.i 0) = x at hd hx
       have q1 : a2X (k6 x) < szD x := a7Y x 5
       have q2 := a5g hx
       have q3 : (k4 x).length < szD x := d9a x 4
       simp only [a9I, a9Z, decide_eq_true hw, _root_.cond_true, a1x h0 hw, a0o, hxx]
       rw [a2i (by omega) (by omega), a2i (by omega) (by omega)]
       obtain ⟨e, e1, e2, _⟩ := a7q hN m m' (k0 x) (k1 x) (k2 x) (k3 x) (k4 x) (k5 x) (k6 x) (v7 + 1) (by omega) (by omega) (by omega) (by omega) (by omega) (by omega)
       rw [e1, e2]
       simp only [Option.isSome_some, _root_.cond_true, getD_some]
       cases he : e != 0 with
       | true => exact ⟨e, by simp [c31, he], by simp [c31, he], fun h0 => by rw [h0] at he; cases he⟩
       | false =>
        have he : e = 0 := by simpa using he
        subst he
        obtain ⟨z, z1, z2, z3⟩ := ih (w + 1) ⟨by omega, by omega⟩ (by omega)
        refine ⟨z, z1, z2, fun hz y hy n hn => ?_⟩
        rw [hd] at hy
        rcases List.mem_cons.1 hy with rfl | hy
        ·obtain ⟨e', f1, f2, _⟩ := a7q hN m n (k0 y) (k1 y) (k2 y) (k3 y) (k4 y) (k5 y) (k6 y) (v7 + 1) (by omega) hn (by omega) (by omega) (by omega) (by omega)
         rw [e1] at f1
         rw [f2, ← f1]
        ·exact z3 hz y hy n hn
      ·have : w = v6.length := by omega
       subst this
       simp only [a9I, a9Z, decide_eq_false hw, _root_.cond_false]
       refine ⟨0, rfl, rfl, fun _ y hy => ?_⟩
       rw [a1y hw] at hy
       cases hy) N 0 ⟨by omega, by omega⟩ (by omega)
    simpa using this
   obtain ⟨z, z1, z2, z3⟩ := e
   rw [z1, z2]
   refine ⟨z, ?_, ?_, fun hz => ⟨hnd, by omega, fun x hx => z3 hz x (by simpa using hx)⟩⟩
   ·exact b3L (k := some)
   ·exact b3L (k := some)
theorem e7N (hN : maxLen < N) {v0 v1 v2 v3 : Int} {v4 : List UInt8} {v5 : Bool} {v6 : List D} (hM : a2X v6 ≤ 2097152) (h4 : v4.length ≤ maxLen) :
  ∃ e, d5g N v0 v1 v2 v3 v4 v5 v6 = some e ∧ d7z N v0 v1 v2 v3 v4 v5 v6 = some e ∧ (e = 0 → b0v N N v0 v1 v2 v3 v4 v5 v6 0 = some 0) := by
 have hm : maxLen = 9223372036854775807 := rfl
 unfold d5g d5f d7z d7y
 rw [d9b hN N _ _ _ _ _ _ _ (by omega) hM, d9c hN N _ _ _ _ _ _ _ _ (by omega) hM (by omega) (by omega)]
 obtain ⟨e, e1, e2, _⟩ := a7q hN N N v0 v1 v2 v3 v4 v5 v6 0 (by omega) (by omega) hM h4 (by omega) (by omega)
 rw [e1, e2]
 simp only [a0o, Option.isSome_some, _root_.cond_true, getD_some]
 by_cases hc : (cn v6 : Int) > 100
 ·rw [decide_eq_true hc, decide_eq_true (by omega)]
  exact ⟨3, rfl, rfl, fun h => by omega⟩
 ·rw [decide_eq_false hc, decide_eq_false (by omega)]
  exact ⟨e, rfl, rfl, fun h => by rw [h]⟩
end Go.Proofs.YtfkkcdapcgimlaaGreatDoor

namespace Go.Proofs.YtfkkcdapcgimlaaGreatDoor
open Go Go.AM
set_option maxRecDepth 100000
set_option maxHeartbeats 4000000
variable {N : Nat}
theorem e2O {v0 v1 v2 v3 : Int} {v4 : List UInt8} {n : Nat} (h : ndE v0 v1 v2 v3 v4 n = 0) : inI v0 1 7 = true ∧ (v0 = 7 → inI v1 1 7 = true) ∧ (v0 = 3 → n = 1) := by
 unfold ndE at h
 cases h1 : inI v0 1 7 with
 | false => rw [h1] at h; cases h
 | true =>
 rw [h1] at h
 refine ⟨rfl, fun h7 => ?_, fun h3 => ?_⟩
 ·subst h7
  cases h2 : inI v1 1 7 with
  | true => rfl
  | false => rw [h2] at h; cases h
 ·subst h3
  cases h2 : ((n : Int) != 1) with
  | false =>
   have : (n : Int) = 1 := by simpa using h2
   omega
  | true =>
   rw [h2] at h
   simp at h
section
variable {v1 v2 v3 : Int} {v4 : List UInt8} {v7 : List UInt8} {v8 v9 v10 v11 v12 v13 : Int} {v14 : Bool} {v15 : List D}
theorem e7O (hN : maxLen < N) (rc : a0e) (rc' : a0B) (hl : v15.length ≤ maxLen) : ∃ b, d6p N rc v15 v4 = some b ∧ ∃ z, b64 N rc' v15 (v15.length : Int) v4 0 = some z ∧ (b = true ∧ z = .inl () ∨ b = false ∧ z = .inr ()) := by
 have hm : maxLen = 9223372036854775807 := rfl
 have e : ∃ z z', c2o N rc v15 v4 (v15.length : Int) 0 = some z ∧ b64 N rc' v15 (v15.length : Int) v4 0 = some z' ∧ ((∃ i, 0 ≤ i ∧ z = .inl i ∧ z' = .inl ()) ∨ z = .inr () ∧ z' = .inr ()) := by
  unfold c2o b64
  have := a1Q (A := Int) (X := Option (Sum Int Unit) × Option (Sum Unit Unit))
   (S := fun w kr => (a9T N rc v15 v4 (v15.length : Int) w (fun w => (kr w).1) (fun p => some (Sum.inl p)) (fun p => some (Sum.inr p)), a99 N rc' v15 (v15.length : Int) v4 w (fun w => (kr w).2) (fun p => some (Sum.inl p)) (fun p => some (Sum.inr p))))
   (L := fun f w => (b6w N rc v15 v4 (v15.length : Int) f w (fun p => some (Sum.inl p)) (fun p => some (Sum.inr p)), b63 N rc' v15 (v15.length : Int) v4 f w (fun p => some (Sum.inl p)) (fun p => some (Sum.inr p)))) (fun f a => rfl)
   (fun w X => ∃ z z', X.1 = some z ∧ X.2 = some z' ∧ ((∃ i, 0 ≤ i ∧ z = .inl i ∧ z' = .inl ()) ∨ z = .inr () ∧ z' = .inr ()))
   (fun w => 0 ≤ w ∧ w ≤ v15.length) (fun w => (v15.length - w).toNat) (fun w kr ⟨h0, h1⟩ ih => by
    by_cases hw : w < v15.length
    ·simp only [a9T, a99, decide_eq_true hw, _root_.cond_true, a1x h0 hw]
     rw [a2i (by omega) (by omega), show (v4 == (v15.getD w.toNat (.i 0)).toS) = ((v15.getD w.toNat (.i 0)).toS == v4) from Bool.eq_iff_iff.2 (by simp only [beq_iff_eq]; exact ⟨Eq.symm, Eq.symm⟩)]
     cases (v15.getD w.toNat (.i 0)).toS == v4 with
     | true => exact ⟨_, _, rfl, rfl, .inl ⟨w, h0, rfl, rfl⟩⟩
     | false => exact ih (w + 1) ⟨by omega, by omega⟩ (by omega)
    ·simp only [a9T, a99, decide_eq_false hw, _root_.cond_false]
     exact ⟨_, _, rfl, rfl, .inr ⟨rfl, rfl⟩⟩) N 0 ⟨by omega, by omega⟩ (by omega)
  exact this
 obtain ⟨z, z', e1, e2, e3⟩ := e
 unfold d6p d2C d0k c0w
 rw [e1, e2]
 rcases e3 with ⟨i, hi, rfl, rfl⟩ | ⟨rfl, rfl⟩
 ·refine ⟨true, ?_, _, rfl, .inl ⟨rfl, rfl⟩⟩
  show some (decide (i ≥ 0)) = _
  rw [decide_eq_true hi]
 ·exact ⟨false, rfl, _, rfl, .inr ⟨rfl, rfl⟩⟩
theorem f2r (rc : a0e) (rc' : a0B) (h : inI v1 1 7 = true) : b2t N rc v1 v2 v3 v9 v10 v11 v12 v13 = some (bif (decide (v2 ≤ (d25 N rc' v9 v10 v11 v12 v13 v1))) then (decide ((d25 N rc' v9 v10 v11 v12 v13 v1) ≤ v3)) else false) := by
 unfold b2t b2s d25 d78 d0p c0x d0z c0y
 simp only [a0o, a7W, inI]
 have e : ∀ n : Int, decide (v2 ≤ n ∧ n ≤ v3) = (bif decide (v2 ≤ n) then decide (n ≤ v3) else false) := fun n => by
  rw [Bool.eq_iff_iff]; simp
 rcases d1r h with rfl | rfl | rfl | rfl | rfl | rfl | rfl <;> simp only [e] <;> rfl
theorem c6z (hN : maxLen < N) (h7 : v7.length < 4294967281) (hl : v15.length ≤ maxLen) : ∀ (m m' : Nat) (v0 v1 v2 v3 : Int) (v4 : List UInt8) (v5 : Bool) (v6 : List D) (lv : Int), a2X v6 < m → a2X v6 < m' → a2X v6 ≤ 2097152 → v4.length ≤ maxLen → 0 ≤ lv → lv ≤ 21 →
  b0v N (a2X v6 + 1) v0 v1 v2 v3 v4 v5 v6 lv = some 0 →
  ∃ b, a8l N m v0 v1 v2 v3 v4 v5 v6 v7 v8 v9 v10 v11 v12 v13 v14 v15 = some b ∧ b9D N m' v0 v1 v2 v3 v4 v5 v6 v7 v8 v9 v10 v11 v12 v13 v14 v15 = some b
 | 0, _, _, _, _, _, _, _, _, _, h, _, _, _, _, _, _ => by omega
 | _, 0, _, _, _, _, _, _, _, _, _, h, _, _, _, _, _ => by omega
 | m + 1, m' + 1, v0, v1, v2, v3, v4, v5, v6, lv, h, h', hM, h4, hv, hv', hok => by
  have hm : maxLen = 9223372036854775807 := rfl
  have hlen := b0i v6
  obtain ⟨e, e1, e2, e3⟩ := a7q hN (a2X v6 + 1) (a2X v6 + 1) v0 v1 v2 v3 v4 v5 v6 lv (by omega) (by omega) hM h4 hv hv'
  rw [hok] at e2
  obtain ⟨hnd, hlv, hkids⟩ := e3 (Option.some.inj e2).symm
  obtain ⟨n1, n2, n3⟩ := e2O hnd
  have kid : ∀ x ∈ v6, ∃ b, a8l N m (k0 x) (k1 x) (k2 x) (k3 x) (k4 x) (k5 x) (k6 x) v7 v8 v9 v10 v11 v12 v13 v14 v15 = some b ∧ b9D N m' (k0 x) (k1 x) (k2 x) (k3 x) (k4 x) (k5 x) (k6 x) v7 v8 v9 v10 v11 v12 v13 v14 v15 = some b := by
   intro x hx
   have q1 : a2X (k6 x) < szD x := a7Y x 5
   have q2 := a5g hx
   have q3 : (k4 x).length < szD x := d9a x 4
   exact c6z hN h7 hl m m' _ _ _ _ _ _ _ (lv + 1) (by omega) (by omega) (by omega) (by omega) (by omega) (by omega) (hkids x hx _ (Nat.lt_succ_self _))
  show ∃ b, d2E N (a8l N m) v0 v1 v2 v3 v4 v5 v6 v7 v8 v9 v10 v11 v12 v13 v14 v15 = some b ∧ d26 N (b9D N m') v0 v1 v2 v3 v4 v5 v6 v7 v8 v9 v10 v11 v12 v13 v14 v15 = some b
  generalize hrc : a8l N m = rc at kid ⊢
  generalize hrc' : b9D N m' = rc' at kid ⊢
  unfold d2E d6B d26 d8i
  rcases d1r n1 with rfl | rfl | rfl | rfl | rfl | rfl | rfl
  ·have e : (b6r N rc v6 (v6.length : Int) v7 v8 v9 v10 v11 v12 v13 v14 v15 0 = some (.inr ()) ∧ b6Y N rc' v6 (v6.length : Int) v7 v8 v9 v10 v11 v12 v13 v14 v15 0 = some (.inr ())) ∨ (∃ i, 0 ≤ i ∧ b6r N rc v6 (v6.length : Int) v7 v8 v9 v10 v11 v12 v13 v14 v15 0 = some (.inl i) ∧ b6Y N rc' v6 (v6.length : Int) v7 v8 v9 v10 v11 v12 v13 v14 v15 0 = some (.inl ())) := by
    unfold b6r b6Y
    exact a1Q (A := Int) (X := Option (Sum Int Unit) × Option (Sum Unit Unit))
     (S := fun w kr => (a9R N rc v6 (v6.length : Int) v7 v8 v9 v10 v11 v12 v13 v14 v15 w (fun w => (kr w).1) (fun p => some (Sum.inl p)) (fun p => some (Sum.inr p)), a97 N rc' v6 (v6.length : Int) v7 v8 v9 v10 v11 v12 v13 v14 v15 w (fun w => (kr w).2) (fun p => some (Sum.inl p)) (fun p => some (Sum.inr p))))
     (L := fun f w => (b6q N rc v6 (v6.length : Int) v7 v8 v9 v10 v11 v12 v13 v14 v15 f w (fun p => some (Sum.inl p)) (fun p => some (Sum.inr p)), b6X N rc' v6 (v6.length : Int) v7 v8 v9 v10 v11 v12 v13 v14 v15 f w (fun p => some (Sum.inl p)) (fun p => some (Sum.inr p)))) (fun f a => rfl)
     (fun w X => (X.1 = some (.inr ()) ∧ X.2 = some (.inr ())) ∨ (∃ i, 0 ≤ i ∧ X.1 = some (.inl i) ∧ X.2 = some (.inl ())))
     (fun w => 0 ≤ w ∧ w ≤ v6.length) (fun w => (v6.length - w).toNat) (fun w kr ⟨h0, h1⟩ ih => by
      by_cases hw : w < v6.length
      ·obtain ⟨b, b1, b2⟩ := kid _ (a0R h0 hw)
       simp only [a9R, a97, e0W, d6a, c5u, c7I, decide_eq_true hw, _root_.cond_true, a1x h0 hw, a0o]
       rw [a2i (by omega) (by omega), b1, b2]
       simp only [Option.isSome_some, _root_.cond_true, getD_some]
       cases b with
       | false => exact .inr ⟨w, h0, rfl, rfl⟩
       | true => exact ih (w + 1) ⟨by omega, by omega⟩ (by omega)
      ·exact .inl ⟨by simp [a9R, hw], by simp [a97, hw]⟩) N 0 ⟨by omega, by omega⟩ (by omega)
   unfold e01 d6f d0e c5y
   rcases e with ⟨f1, f2⟩ | ⟨i, hi, f1, f2⟩
   ·rw [f1, f2]; exact ⟨true, rfl, rfl⟩
   ·rw [f1, f2]
    refine ⟨false, ?_, rfl⟩
    show some (!decide (i ≥ 0)) = _
    rw [decide_eq_true hi]; rfl
  ·have e : (b6u N rc v6 (v6.length : Int) v7 v8 v9 v10 v11 v12 v13 v14 v15 0 = some (.inr ()) ∧ b61 N rc' v6 (v6.length : Int) v7 v8 v9 v10 v11 v12 v13 v14 v15 0 = some (.inr ())) ∨ (∃ i, 0 ≤ i ∧ b6u N rc v6 (v6.length : Int) v7 v8 v9 v10 v11 v12 v13 v14 v15 0 = some (.inl i) ∧ b61 N rc' v6 (v6.length : Int) v7 v8 v9 v10 v11 v12 v13 v14 v15 0 = some (.inl ())) := by
    unfold b6u b61
    exact a1Q (A := Int) (X := Option (Sum Int Unit) × Option (Sum Unit Unit))
     (S := fun w kr => (a9S N rc v6 (v6.length : Int) v7 v8 v9 v10 v11 v12 v13 v14 v15 w (fun w => (kr w).1) (fun p => some (Sum.inl p)) (fun p => some (Sum.inr p)), a98 N rc' v6 (v6.length : Int) v7 v8 v9 v10 v11 v12 v13 v14 v15 w (fun w => (kr w).2) (fun p => some (Sum.inl p)) (fun p => some (Sum.inr p))))
     (L := fun f w => (b6t N rc v6 (v6.length : Int) v7 v8 v9 v10 v11 v12 v13 v14 v15 f w (fun p => some (Sum.inl p)) (fun p => some (Sum.inr p)), b60 N rc' v6 (v6.length : Int) v7 v8 v9 v10 v11 v12 v13 v14 v15 f w (fun p => some (Sum.inl p)) (fun p => some (Sum.inr p)))) (fun f a => rfl)
     (fun w X => (X.1 = some (.inr ()) ∧ X.2 = some (.inr ())) ∨ (∃ i, 0 ≤ i ∧ X.1 = some (.inl i) ∧ X.2 = some (.inl ())))
     (fun w => 0 ≤ w ∧ w ≤ v6.length) (fun w => (v6.length - w).toNat) (fun w kr ⟨h0, h1⟩ ih => by
      by_cases hw : w < v6.length
      ·obtain ⟨b, b1, b2⟩ := kid _ (a0R h0 hw)
       simp only [a9S, a98, c5u, c7I, decide_eq_true hw, _root_.cond_true, a1x h0 hw, a0o]
       rw [a2i (by omega) (by omega), b1, b2]
       simp only [Option.isSome_some, _root_.cond_true, getD_some]
       cases b with
       | true => exact .inr ⟨w, h0, rfl, rfl⟩
       | false => exact ih (w + 1) ⟨by omega, by omega⟩ (by omega)
      ·exact .inl ⟨by simp [a9S, hw], by simp [a98, hw]⟩) N 0 ⟨by omega, by omega⟩ (by omega)
   unfold e06 d6k d0h c5C
   rcases e with ⟨f1, f2⟩ | ⟨i, hi, f1, f2⟩
   ·rw [f1, f2]; exact ⟨false, rfl, rfl⟩
   ·rw [f1, f2]
    refine ⟨true, ?_, rfl⟩
    show some (decide (i ≥ 0)) = _
    rw [decide_eq_true hi]
  ·have hl1 := n3 rfl
   have hb : inB 0 v6.length = true := a1x (by omega) (by omega)
   obtain ⟨b, b1, b2⟩ := kid _ (a0R (l := v6) (w := 0) (by omega) (by omega))
   rw [hb]
   unfold c5u c7I
   have b1 : rc ((v6.getD 0 (.i 0)).cell 0).toI ((v6.getD 0 (.i 0)).cell 1).toI ((v6.getD 0 (.i 0)).cell 2).toI ((v6.getD 0 (.i 0)).cell 3).toI ((v6.getD 0 (.i 0)).cell 4).toS ((v6.getD 0 (.i 0)).cell 5).isNil ((v6.getD 0 (.i 0)).cell 5).items v7 v8 v9 v10 v11 v12 v13 v14 v15 = some b := b1
   have b2 : rc' ((v6.getD 0 (.i 0)).cell 0).toI ((v6.getD 0 (.i 0)).cell 1).toI ((v6.getD 0 (.i 0)).cell 2).toI ((v6.getD 0 (.i 0)).cell 3).toI ((v6.getD 0 (.i 0)).cell 4).toS ((v6.getD 0 (.i 0)).cell 5).isNil ((v6.getD 0 (.i 0)).cell 5).items v7 v8 v9 v10 v11 v12 v13 v14 v15 = some b := b2
   rw [b1, b2]
   exact ⟨!b, rfl, rfl⟩
  ·exact ⟨v8 == v2, rfl, rfl⟩
  ·obtain ⟨b, f1, z, f2, f3⟩ := e7O (v4 := v4) hN rc rc' hl
   rw [f1, f2]
   rcases f3 with ⟨rfl, rfl⟩ | ⟨rfl, rfl⟩
   ·exact ⟨true, rfl, rfl⟩
   ·exact ⟨false, rfl, rfl⟩
  ·have hb : Nat.blt v7.length 4294967281 = true := Nat.ble_eq_true_of_le h7
   rw [hb]
   exact ⟨Lib.contains v7 v4, rfl, rfl⟩
  ·rw [f2r rc rc' (n2 rfl)]
   exact ⟨_, rfl, rfl⟩
end
theorem d9f {v0 : List UInt8} {v1 v2 v3 v4 v5 v6 : Int} {v8 : List D} (h : e4m v0 v1 v2 v3 v4 v5 v6 v8 = 0) : v0.length ≤ 60 := by
 unfold e4m at h
 cases hn : a9j v0 with
 | false => rw [hn] at h; cases h
 | true =>
  unfold a9j at hn
  simp at hn
  omega
end Go.Proofs.YtfkkcdapcgimlaaGreatDoor

namespace Go.Proofs.YtfkkcdapcgimlaaGreatDoor
open Go Go.AM
set_option maxRecDepth 100000
set_option maxHeartbeats 4000000
variable {N : Nat}
structure b1x (x : D) : Prop where
 name : (x.cell 0).toS.length ≤ maxLen
 text : (x.cell 8).toS.length ≤ maxLen
 size : a2X (x.cell 9).items ≤ 2097152
structure c6A (x : D) : Prop where
 name : (x.cell 0).toS.length ≤ maxLen
 tags : (x.cell 7).items.length ≤ maxLen
 words : ∀ j : Nat, (((x.cell 7).items.getD j (.i 0)).toS).length ≤ maxLen
abbrev nmD (x : D) : List UInt8 := (x.cell 0).toS
structure d3n (N : Nat) (x : D) : Prop where
 cond : b0v N N (x.cell 4).toI (x.cell 5).toI (x.cell 6).toI (x.cell 7).toI (x.cell 8).toS (x.cell 9).isNil (x.cell 9).items 0 = some 0
 kind : inI (x.cell 1).toI 1 4 = true
 field : ((x.cell 1).toI = 2 ∨ (x.cell 1).toI = 3) ∧ inI (x.cell 2).toI 1 7 = true ∨ ¬ ((x.cell 1).toI = 2 ∨ (x.cell 1).toI = 3) ∧ (x.cell 2).toI = 0
 num : inI (x.cell 3).toI 1 10000000000000 = true
theorem f2s (w : Bool) (n : Int) : b2b N w n = bif w then !inI n 1 7 else n != 0 := by
 unfold b2b a9J
 simp only [a0o, d1o]
 cases w <;> cases inI n 1 7 <;> rfl
theorem f2t (w : Bool) (n : Int) : b3d N w n = bif w then !inI n 1 7 else n != 0 := by
 unfold b3d a91
 simp only [a0o, c30]
 cases w <;> cases inI n 1 7 <;> rfl
theorem c1a (hN : maxLen < N) {x : D} (h : b1x x) : ∃ e, d2r N (x.cell 0).toS (x.cell 1).toI (x.cell 2).toI (x.cell 3).toI (x.cell 4).toI (x.cell 5).toI (x.cell 6).toI (x.cell 7).toI (x.cell 8).toS (x.cell 9).isNil (x.cell 9).items = some e ∧
  d2Y N (x.cell 0).toS (x.cell 1).toI (x.cell 2).toI (x.cell 3).toI (x.cell 4).toI (x.cell 5).toI (x.cell 6).toI (x.cell 7).toI (x.cell 8).toS (x.cell 9).isNil (x.cell 9).items = some e ∧ (e = 0 → d3n N x) := by
 obtain ⟨e, e1, e2, e3⟩ := e7N hN (v0 := (x.cell 4).toI) (v1 := (x.cell 5).toI) (v2 := (x.cell 6).toI) (v3 := (x.cell 7).toI) (v4 := (x.cell 8).toS) (v5 := (x.cell 9).isNil) (v6 := (x.cell 9).items) h.size h.text
 unfold d2r d5k d2Y d7D
 rw [b7h hN h.name, b7g hN h.name, e1, e2]
 simp only [a0o, Option.isSome_some, _root_.cond_true, getD_some, a7W, a7X, f2s, f2t]
 cases a9j (x.cell 0).toS with
 | false => exact ⟨8, rfl, rfl, fun h => (by cases h)⟩
 | true =>
 cases hk : inI (x.cell 1).toI 1 4 with
 | false => exact ⟨7, rfl, rfl, fun h => (by cases h)⟩
 | true =>
 cases he : e != 0 with
 | true => exact ⟨e, rfl, rfl, fun h => by simp [h] at he⟩
 | false =>
 have he0 : e = 0 := by simpa using he
 cases hf : (bif (bif ((x.cell 1).toI == 2) then true else ((x.cell 1).toI == 3)) then !inI (x.cell 2).toI 1 7 else (x.cell 2).toI != 0) with
 | true => exact ⟨7, rfl, rfl, fun h => (by cases h)⟩
 | false =>
 cases hn : inI (x.cell 3).toI 1 10000000000000 with
 | false => exact ⟨9, rfl, rfl, fun h => (by cases h)⟩
 | true =>
 refine ⟨0, rfl, rfl, fun _ => ⟨e3 he0, hk, ?_, hn⟩⟩
 by_cases h2 : (x.cell 1).toI = 2
 ·simp [h2] at hf
  exact .inl ⟨.inl h2, hf⟩
 ·by_cases h3 : (x.cell 1).toI = 3
  ·simp [h3] at hf
   exact .inl ⟨.inr h3, hf⟩
  ·simp [h2, h3] at hf
   exact .inr ⟨fun h => h.elim h2 h3, hf⟩
theorem b4w {l : List D} {w : Int} (h0 : 0 ≤ w) (h1 : w < l.length) : l.take (w + 1).toNat = l.take w.toNat ++ [l.getD w.toNat (.i 0)] := by
 have e : (w + 1).toNat = w.toNat + 1 := by omega
 have hl : w.toNat < l.length := by omega
 rw [e, List.take_add_one, List.getElem?_eq_getElem hl, List.getD_eq_getElem?_getD, List.getElem?_eq_getElem hl]
 rfl
theorem f2u (hN : maxLen < N) {l : List D} (hl : l.length ≤ maxLen) (s : List UInt8) : d5r N l s = some (l.any fun y => nmD y == s) := by
 have h : ∃ i, 0 ≤ i ∧ c18 N l (l.length : Int) s 0 = some (bif l.any fun y => nmD y == s then .inl i else .inr ()) := by
  have := a1Q (A := Int) (S := fun w kr => a9K N l (l.length : Int) s w kr _ _) (L := fun f w => b6d N l (l.length : Int) s f w (fun p => some (Sum.inl p)) (fun p => some (Sum.inr p))) (fun f a => rfl)
   (fun w X => ∃ i, 0 ≤ i ∧ X = some (bif (l.drop w.toNat).any fun y => nmD y == s then .inl i else .inr ()))
   (fun w => 0 ≤ w ∧ w ≤ l.length) (fun w => (l.length - w).toNat) (fun w kr ⟨h0, h1⟩ ih => by
    by_cases hw : w < l.length
    ·have hm : maxLen = 9223372036854775807 := rfl
     have ih := ih (w + 1) ⟨by omega, by omega⟩ (by omega)
     rw [a2y (.i 0 : D) h0 hw]
     simp only [a9K, decide_eq_true hw, _root_.cond_true, a1x h0 hw, a0o, e0v, d2s, List.any_cons]
     rw [a2i (by omega) (by omega)]
     cases nmD (l.getD w.toNat (.i 0)) == s with
     | true => exact ⟨w, h0, rfl⟩
     | false => exact ih
    ·refine ⟨0, by omega, ?_⟩
     rw [a1y hw]
     simp [a9K, hw]) N 0 ⟨by omega, by omega⟩ (by omega)
  simpa [c18] using this
 obtain ⟨i, hi, h⟩ := h
 unfold d5r d2t c9V c0n
 rw [h]
 cases l.any fun y => nmD y == s with
 | true =>
  show some (decide (i ≥ 0)) = _
  rw [decide_eq_true hi]
 | false => rfl
theorem f2v (hN : maxLen < N) {l : List D} (hl : l.length ≤ maxLen) (s : List UInt8) : c3w N l (l.length : Int) s 0 = some (bif l.any fun y => nmD y == s then .inl () else .inr ()) := by
 unfold c3w
 refine (a7G (.i 0 : D) (S := fun w kr => a92 N l (l.length : Int) s w kr _ _) (L := fun m w => b6L N l (l.length : Int) s m w _ _) (fun m w => rfl) (fun _ r => some (bif r.any fun y => nmD y == s then .inl () else .inr ())) hl ?_ ?_ hN).trans rfl
 ·intro kr; simp [a92]
 ·intro w kr h0 h1 hw hi hk
  simp only [a92, decide_eq_true h1, _root_.cond_true, hi, hw, hk, List.any_cons]
  cases nmD (l.getD w.toNat (.i 0)) == s <;> rfl
structure c32 (N : Nat) (l : List D) : Prop where
 len : l.length ≤ 50
 each : ∀ x ∈ l, d3n N x
 apart : l.Pairwise fun x y => nmD x ≠ nmD y
theorem c6B (hN : maxLen < N) {l : List D} (hl : l.length ≤ maxLen) (hB : ∀ x ∈ l, b1x x) : ∃ e, d5v N l = some e ∧ d7L N l = some e ∧ (e = 0 → c32 N l) := by
 have hm : maxLen = 9223372036854775807 := rfl
 have h : ∃ z, c2a N l l (l.length : Int) 0 = some z ∧ c3x N l l (l.length : Int) 0 = some z ∧ (z = .inr () → (∀ x ∈ l, d3n N x) ∧ l.Pairwise fun x y => nmD x ≠ nmD y) ∧ ∀ e, z = .inl e → e ≠ 0 := by
  unfold c2a c3x
  have := a1Q (A := Int) (X := Option (Sum Int Unit) × Option (Sum Int Unit))
   (S := fun w kr => (a9L N l l (l.length : Int) w (fun w => (kr w).1) (fun p => some (Sum.inl p)) (fun p => some (Sum.inr p)), a93 N l l (l.length : Int) w (fun w => (kr w).2) (fun p => some (Sum.inl p)) (fun p => some (Sum.inr p))))
   (L := fun f w => (b6f N l l (l.length : Int) f w (fun p => some (Sum.inl p)) (fun p => some (Sum.inr p)), b6N N l l (l.length : Int) f w (fun p => some (Sum.inl p)) (fun p => some (Sum.inr p)))) (fun f a => rfl)
   (fun w X => ∃ z, X.1 = some z ∧ X.2 = some z ∧ (z = .inr () → (∀ x ∈ l, d3n N x) ∧ l.Pairwise fun x y => nmD x ≠ nmD y) ∧ ∀ e, z = .inl e → e ≠ 0)
   (fun w => 0 ≤ w ∧ w ≤ l.length ∧ (∀ x ∈ l.take w.toNat, d3n N x) ∧ (l.take w.toNat).Pairwise fun x y => nmD x ≠ nmD y) (fun w => (l.length - w).toNat) (fun w kr ⟨h0, h1, h2, h3⟩ ih => by
    by_cases hw : w < l.length
    ·have hx := a0R h0 hw
     obtain ⟨e, e1, e2, e3⟩ := c1a hN (hB _ hx)
     have ht : ((l.take w.toNat).drop 0).length ≤ maxLen := by simp; omega
     simp only [a9L, a93, decide_eq_true hw, _root_.cond_true, a1x h0 hw, a0o]
     rw [e1, e2, a2i (by omega) (by omega), f2u hN ht, f2v hN ht, decide_eq_true h0, decide_eq_true h1]
     simp only [Option.isSome_some, _root_.cond_true, getD_some, Bool.and_true, List.drop_zero]
     cases he : e != 0 with
     | true => exact ⟨.inl e, rfl, rfl, fun h => (by cases h), fun e' h => by cases h; simpa using he⟩
     | false =>
     have he0 : e = 0 := by simpa using he
     cases ha : (l.take w.toNat).any fun y => nmD y == nmD (l.getD w.toNat (.i 0)) with
     | true => exact ⟨.inl 5, rfl, rfl, fun h => (by cases h), fun e' h => by cases h; omega⟩
     | false =>
      have ih := ih (w + 1) ⟨by omega, by omega, ?_, ?_⟩ (by omega)
      ·exact ih
      ·rw [b4w h0 hw]
       intro x hx
       rcases List.mem_append.1 hx with hx | hx
       ·exact h2 x hx
       ·simp only [List.mem_singleton] at hx
        subst hx
        exact e3 he0
      ·rw [b4w h0 hw, List.pairwise_append]
       refine ⟨h3, by simp, fun a ha' b hb => ?_⟩
       simp only [List.mem_singleton] at hb
       subst hb
       have := List.any_eq_false.1 ha a ha'
       simpa using this
    ·have : w.toNat = l.length := by omega
     rw [this, List.take_length] at h2 h3
     refine ⟨.inr (), ?_, ?_, fun _ => ⟨h2, h3⟩, fun e h => by cases h⟩ <;> simp [a9L, a93, hw]) N 0 ⟨by omega, by omega, by simp, by simp⟩ (by omega)
  exact this
 obtain ⟨z, z1, z2, z3, z4⟩ := h
 unfold d5v d2u d7L d2Z
 rw [z1, z2]
 by_cases hc : (l.length : Int) > 50
 ·rw [decide_eq_true hc]
  exact ⟨3, rfl, rfl, fun h => by omega⟩
 ·rw [decide_eq_false hc]
  cases z with
  | inl e => exact ⟨e, rfl, rfl, fun h => absurd h (z4 e rfl)⟩
  | inr u => exact ⟨0, rfl, rfl, fun _ => ⟨by omega, (z3 rfl).1, (z3 rfl).2⟩⟩
end Go.Proofs.YtfkkcdapcgimlaaGreatDoor

namespace Go.Proofs.YtfkkcdapcgimlaaGreatDoor
open Go Go.AM
set_option maxRecDepth 100000
set_option maxHeartbeats 4000000
variable {N : Nat}
noncomputable abbrev e2P (x : D) : Int := e4m (x.cell 0).toS (x.cell 1).toI (x.cell 2).toI (x.cell 3).toI (x.cell 4).toI (x.cell 5).toI (x.cell 6).toI (x.cell 7).items
def b9F (l : List D) : List (D × D) := l.map fun x => (.s (nmD x), .b true)
theorem d9g (a b : List UInt8) : eqB Tryz.prog 9 (.s a) (.s b) = (a == b) := by kernel_rfl
theorem c6C {a : List UInt8} : ∀ {l : List D}, (∀ x ∈ l, nmD x ≠ a) → d9p Tryz.prog 9 (.s a) (.b true) (b9F l) = b9F l ++ [(.s a, .b true)]
 | [], _ => rfl
 | x :: r, h => by
  have h1 : (a == nmD x) = false := by have := h x (by simp); simp; exact fun e => this e.symm
  simp only [b9F, List.map_cons, d9p, d9g, h1, _root_.cond_false, List.cons_append]
  have := c6C (a := a) (l := r) fun y hy => h y (by simp [hy])
  simp only [b9F] at this
  rw [this]
theorem b8Z {a : List UInt8} : ∀ {l : List D}, ((b0j Tryz.prog 9 (.s a) (b9F l)).getD (.b false)).toB = l.any fun y => nmD y == a
 | [] => rfl
 | x :: r => by
  simp only [b9F, List.map_cons, b0j, d9g, List.any_cons]
  cases h : a == nmD x with
  | true =>
   have : (nmD x == a) = true := by simp only [beq_iff_eq] at h ⊢; exact h.symm
   rw [this]; rfl
  | false =>
   have : (nmD x == a) = false := by
    cases e : nmD x == a with
    | false => rfl
    | true => rw [beq_iff_eq] at e; rw [← e, beq_self_eq_true] at h; cases h
   rw [this]
   exact b8Z (l := r)
structure d9h (l : List D) : Prop where
 len : l.length ≤ 5000
 each : ∀ x ∈ l, e2P x = 0
 apart : l.Pairwise fun x y => nmD x ≠ nmD y
theorem d3o (hN : maxLen < N) {l : List D} (hl : l.length ≤ maxLen) (hB : ∀ x ∈ l, c6A x) : ∃ e, d5J N l = some e ∧ d7Y N l = some e ∧ (e = 0 → d9h l) := by
 have hm : maxLen = 9223372036854775807 := rfl
 have h : ∃ z, c2e N l (l.length : Int) 0 [] = some z ∧ c3A N l (l.length : Int) 0 [] = some z ∧ (z = .inr () → (∀ x ∈ l, e2P x = 0) ∧ l.Pairwise fun x y => nmD x ≠ nmD y) ∧ ∀ e, z = .inl e → e ≠ 0 := by
  unfold c2e c3A
  have := a1Q (A := Int × List (D × D)) (X := Option (Sum Int Unit) × Option (Sum Int Unit))
   (S := fun a kr => (a9N N l (l.length : Int) a.1 a.2 (fun w m => (kr (w, m)).1) (fun p => some (Sum.inl p)) (fun p => some (Sum.inr p)), a95 N l (l.length : Int) a.1 a.2 (fun w m => (kr (w, m)).2) (fun p => some (Sum.inl p)) (fun p => some (Sum.inr p))))
   (L := fun f a => (b6m N l (l.length : Int) f a.1 a.2 (fun p => some (Sum.inl p)) (fun p => some (Sum.inr p)), b6S N l (l.length : Int) f a.1 a.2 (fun p => some (Sum.inl p)) (fun p => some (Sum.inr p)))) (fun f a => rfl)
   (fun w X => ∃ z, X.1 = some z ∧ X.2 = some z ∧ (z = .inr () → (∀ x ∈ l, e2P x = 0) ∧ l.Pairwise fun x y => nmD x ≠ nmD y) ∧ ∀ e, z = .inl e → e ≠ 0)
   (fun a => 0 ≤ a.1 ∧ a.1 ≤ l.length ∧ (∀ x ∈ l.take a.1.toNat, e2P x = 0) ∧ ((l.take a.1.toNat).Pairwise fun x y => nmD x ≠ nmD y) ∧ a.2 = b9F (l.take a.1.toNat)) (fun a => (l.length - a.1).toNat) (fun ⟨w, m⟩ kr ⟨h0, h1, h2, h3, h4⟩ ih => by
    simp only at h0 h1 h2 h3 h4 ⊢
    subst h4
    by_cases hw : w < l.length
    ·have hx := a0R h0 hw
     have hb := hB _ hx
     simp only [a9N, a95, decide_eq_true hw, _root_.cond_true, a1x h0 hw, a0o]
     rw [e2J hN hb.name hb.tags hb.words, e2K hN hb.name hb.tags hb.words, a2i (by omega) (by omega)]
     simp only [Option.isSome_some, _root_.cond_true, getD_some, b8Z]
     cases he : e2P (l.getD w.toNat (.i 0)) != 0 with
     | true => exact ⟨.inl _, rfl, rfl, fun h => (by cases h), fun e' h => by cases h; simpa using he⟩
     | false =>
     have he0 : e2P (l.getD w.toNat (.i 0)) = 0 := by simpa using he
     simp only [_root_.cond_false]
     cases ha : (l.take w.toNat).any fun y => nmD y == nmD (l.getD w.toNat (.i 0)) with
     | true => exact ⟨.inl 5, rfl, rfl, fun h => (by cases h), fun e' h => by cases h; omega⟩
     | false =>
      have hne : ∀ a ∈ l.take w.toNat, nmD a ≠ nmD (l.getD w.toNat (.i 0)) := fun a ha' => by
       have := List.any_eq_false.1 ha a ha'
       simpa using this
      have ih := ih (w + 1, d9p Tryz.prog 9 (.s (nmD (l.getD w.toNat (.i 0)))) (.b true) (b9F (l.take w.toNat))) ⟨by simp only; omega, by simp only; omega, ?_, ?_, ?_⟩ (by simp only; omega)
      ·exact ih
      ·simp only
       rw [b4w h0 hw]
       intro x hx
       rcases List.mem_append.1 hx with hx | hx
       ·exact h2 x hx
       ·simp only [List.mem_singleton] at hx
        subst hx
        exact he0
      ·simp only
       rw [b4w h0 hw, List.pairwise_append]
       refine ⟨h3, by simp, fun a ha' b hb => ?_⟩
       simp only [List.mem_singleton] at hb
       subst hb
       exact hne a ha'
      ·simp only
       rw [c6C hne, b4w h0 hw]
       simp [b9F]
    ·have : w.toNat = l.length := by omega
     rw [this, List.take_length] at h2 h3
     refine ⟨.inr (), ?_, ?_, fun _ => ⟨h2, h3⟩, fun e h => (by cases h)⟩ <;> simp [a9N, a95, hw]) N (0, []) ⟨by simp, by simp only; omega, by simp, by simp, by simp [b9F]⟩ (by simp only; omega)
  exact this
 obtain ⟨z, z1, z2, z3, z4⟩ := h
 unfold d5J d2v d7Y d22
 rw [z1, z2]
 by_cases hc : (l.length : Int) > 5000
 ·rw [decide_eq_true hc]
  exact ⟨3, rfl, rfl, fun h => by omega⟩
 ·rw [decide_eq_false hc]
  cases z with
  | inl e => exact ⟨e, rfl, rfl, fun h => absurd h (z4 e rfl)⟩
  | inr u => exact ⟨0, rfl, rfl, fun _ => ⟨by omega, (z3 rfl).1, (z3 rfl).2⟩⟩
end Go.Proofs.YtfkkcdapcgimlaaGreatDoor

namespace Go.Proofs.YtfkkcdapcgimlaaGreatDoor
open Go Go.AM Go.Sort
set_option maxRecDepth 100000
set_option maxHeartbeats 4000000
variable {N : Nat}
theorem a5h : ∀ a b : List UInt8, Op.bytesLess a b = true ↔ Lib.compareBytes a b < 0
 | _, [] => by cases ‹List UInt8› <;> simp [Op.bytesLess, Lib.compareBytes]
 | [], _ :: _ => by simp [Op.bytesLess, Lib.compareBytes]
 | x :: a, y :: b => by
  have ih := a5h a b
  have h1 : x < y ↔ x.toNat < y.toNat := UInt8.lt_iff_toNat_lt
  have h2 : y < x ↔ y.toNat < x.toNat := UInt8.lt_iff_toNat_lt
  have h3 : x = y ↔ x.toNat = y.toNat := UInt8.toNat_inj.symm
  simp only [Op.bytesLess, Lib.compareBytes, Bool.or_eq_true, Bool.and_eq_true, decide_eq_true_eq, beq_iff_eq]
  by_cases p : x < y
  ·simp [p]
  ·by_cases q : y < x
   ·have : ¬ x = y := by rw [h3]; rw [h2] at q; omega
    simp [p, q, this]
   ·have : x = y := by rw [h3]; rw [h1] at p; rw [h2] at q; omega
    simp [p, q, this, ih]
theorem a2Y : ∀ a b : List UInt8, Lib.compareBytes a b = 0 → a = b
 | [], [], _ => rfl
 | [], _ :: _, h => by simp [Lib.compareBytes] at h
 | _ :: _, [], h => by simp [Lib.compareBytes] at h
 | x :: a, y :: b, h => by
  have h1 : x < y ↔ x.toNat < y.toNat := UInt8.lt_iff_toNat_lt
  have h2 : y < x ↔ y.toNat < x.toNat := UInt8.lt_iff_toNat_lt
  have h3 : x = y ↔ x.toNat = y.toNat := UInt8.toNat_inj.symm
  simp only [Lib.compareBytes] at h
  split at h
  ·omega
  ·split at h
   ·omega
   ·rename_i p q
    have : x = y := by rw [h3]; rw [h1] at p; rw [h2] at q; omega
    rw [this, a2Y a b h]
def leO (c : D → D → Int) (x y : D) : Bool := !ltOf c y x
theorem b1y {c : D → D → Int} (h : a8m c) (x y : D) : leO c x y = true ↔ c x y ≤ 0 := by
 have := h.sym y x
 unfold leO ltOf
 simp; omega
theorem b80 {c : D → D → Int} (h : a8m c) (x y z : D) (h1 : leO c x y = true) (h2 : leO c y z = true) : leO c x z = true := by
 rw [b1y h] at *
 exact h.trans x y z h1 h2
theorem c6D {c : D → D → Int} (h : a8m c) (x y : D) : (leO c x y || leO c y x) = true := by
 rw [Bool.or_eq_true, b1y h, b1y h]
 have := h.sym x y
 omega
theorem c1b {c : D → D → Int} (h : a8m c) {l r s : List D} (hr : r.Perm l) (hs : s.Perm l) (h1 : r.Pairwise fun x y => leO c x y = true) (h2 : s.Pairwise fun x y => leO c x y = true)
  (ha : ∀ x ∈ l, ∀ y ∈ l, c x y = 0 → x = y) : r = s := by
 refine List.Perm.eq_of_pairwise (le := fun x y => leO c x y = true) (fun a b ha' hb' h1 h2 => ?_) h1 h2 (hr.trans hs.symm)
 refine ha a (hr.mem_iff.1 ha') b (hs.mem_iff.1 hb') ?_
 rw [b1y h] at *
 have e1 := h.sym a b
 have e2 := h.sym b a
 omega
theorem c1c {P : Program} {e : TypeId} {os : a33} (xs : List D) : (c3X P e os xs).Perm xs := List.mergeSort_perm _ _
theorem b0S {P : Program} {e : TypeId} {os : a33} (xs : List D) : (c3X P e os xs).Pairwise fun x y => leO (d1j P e os) x y = true := by
 have := List.pairwise_mergeSort (le := leO (d1j P e os)) (fun a b d => b80 (a7p os) a b d) (fun a b => c6D (a7p os) a b) xs
 exact this
theorem a7D {l : List D} {f : D → List UInt8} {c : D → D → Int} (hp : l.Pairwise fun x y => f x ≠ f y) (hc : ∀ x y, c x y = 0 → f x = f y) : ∀ x ∈ l, ∀ y ∈ l, c x y = 0 → x = y := by
 induction l with
 | nil => intro x hx; cases hx
 | cons a l ih =>
  rw [List.pairwise_cons] at hp
  intro x hx y hy h
  have e := hc x y h
  rcases List.mem_cons.1 hx with hx1 | hx1
  ·rcases List.mem_cons.1 hy with hy1 | hy1
   ·rw [hx1, hy1]
   ·rw [hx1] at e; exact absurd e (hp.1 y hy1)
  ·rcases List.mem_cons.1 hy with hy1 | hy1
   ·rw [hy1] at e; exact absurd e.symm (hp.1 x hx1)
   ·exact ih hp.2 x hx1 y hy1 h
def cR (x y : D) : Int := lex (Lib.compareInt (x.cell 2).toI (y.cell 2).toI) (lex (Lib.compareBytes (nmD x) (nmD y)) 0)
theorem e2Q : a8m cR := a32 (a1j b3K fun x : D => (x.cell 2).toI) (a32 (a1j a6a fun x : D => nmD x) b0f)
theorem c8T {x y : D} (h : cR x y = 0) : nmD x = nmD y := by
 unfold cR lex at h
 refine a2Y _ _ ?_
 split at h
 ·split at h <;> assumption
 ·omega
def e8b (x y : D) : Bool := decide ((x.cell 2).toI < (y.cell 2).toI) || ((x.cell 2).toI == (y.cell 2).toI && Op.bytesLess (nmD x) (nmD y))
theorem e2R (x y : D) : e8b x y = true ↔ cR x y < 0 := by
 unfold e8b cR
 rw [Bool.or_eq_true, Bool.and_eq_true, a5h, decide_eq_true_eq, beq_iff_eq]
 generalize Lib.compareBytes (nmD x) (nmD y) = n
 generalize (x.cell 2).toI = a
 generalize (y.cell 2).toI = b
 simp only [lex, Lib.compareInt]
 by_cases p : a < b
 ·simp [p]
 ·by_cases q : a > b
  ·have : ¬ a = b := by omega
   simp [p, q, this]
  ·have e : a = b := by omega
   subst e
   simp
   by_cases hn : n = 0 <;> simp [hn]
def c6E (x : D) : D := .a [.s (x.cell 0).toS, .i (x.cell 1).toI, .i (x.cell 2).toI, .i (x.cell 3).toI, .i (x.cell 4).toI, .i (x.cell 5).toI, .i (x.cell 6).toI, .l (x.cell 7).isNil (x.cell 7).items]
theorem d9i {n : Nat} (h : n ≤ 5000) : (decide ((n + 1) * 88 ≤ b5p) && decide ((n + 1) ≤ a0Q)) = true := by
 have h1 : b5p = 140737488355328 := rfl
 have h2 : a0Q = 9223372036854775807 := rfl
 rw [Bool.and_eq_true, decide_eq_true_eq, decide_eq_true_eq]; omega
theorem e7P {n : Nat} (h : n ≤ 5000) : (decide ((0 + n) * 88 ≤ b5p) && decide ((0 + n) ≤ a0Q)) = true := by
 have h1 : b5p = 140737488355328 := rfl
 have h2 : a0Q = 9223372036854775807 := rfl
 rw [Bool.and_eq_true, decide_eq_true_eq, decide_eq_true_eq]; omega
theorem d9j (rc : a01) (a b : List D) : b3n N rc a b = some (match a, b with | _, [] => true | x :: _, y :: _ => e8b x y | [], _ :: _ => false) := by
 unfold b3n a96
 match a, b with
 | [], [] => rfl
 | _ :: _, [] => rfl
 | [], y :: b => rfl
 | x :: a, y :: b =>
  have h1 : (((y :: b).length : Int) == 0) = false := by simp <;> omega
  have h2 : decide (((x :: a).length : Int) > 0) = true := by simp <;> omega
  have h3 : inB 0 (x :: a).length = true := a1x (by omega) (by simp <;> omega)
  have h4 : inB 0 (y :: b).length = true := a1x (by omega) (by simp <;> omega)
  rw [h1, h2, h3, h4]
  unfold e8b
  simp only [a0o, _root_.cond_true, _root_.cond_false, List.getD_cons_zero]
  cases decide ((x.cell 2).toI < (y.cell 2).toI) with
  | true => rfl
  | false =>
   cases (x.cell 2).toI == (y.cell 2).toI with
   | true => rfl
   | false => rfl
theorem f2w {x : D} {a out : List D} (rc : a01) (b : List D) (hx : c6E x = x) (hn : out.length ≤ 5000) : a3w N rc (x :: a) b true out = some (.inl (a, out ++ [x])) := by
 unfold a3w a4o
 have h3 : inB 0 (x :: a).length = true := a1x (by omega) (by simp <;> omega)
 have h4 : decide (1 ≤ ((x :: a).length : Int)) = true := by simp <;> omega
 have h5 : decide (((x :: a).length : Int) ≤ ((x :: a).length : Int)) = true := by simp
 rw [h3, d9i hn, h4, h5]
 simp only [_root_.cond_true, a0o, List.getD_cons_zero, Bool.and_true]
 have : (((x :: a).take ((x :: a).length : Int).toNat).drop 1) = a := by simp
 rw [this]
 unfold c6E at hx
 rw [hx]
theorem f2x {y : D} {b out : List D} (rc : a01) (a : List D) (hx : c6E y = y) (hn : out.length ≤ 5000) : a3w N rc a (y :: b) false out = some (.inr (b, out ++ [y])) := by
 unfold a3w a4o
 have h3 : inB 0 (y :: b).length = true := a1x (by omega) (by simp <;> omega)
 have h4 : decide (1 ≤ ((y :: b).length : Int)) = true := by simp <;> omega
 have h5 : decide (((y :: b).length : Int) ≤ ((y :: b).length : Int)) = true := by simp
 rw [h3, d9i hn, h4, h5]
 simp only [_root_.cond_true, _root_.cond_false, a0o, List.getD_cons_zero, Bool.and_true]
 have : (((y :: b).take ((y :: b).length : Int).toNat).drop 1) = b := by simp
 rw [this]
 unfold c6E at hx
 rw [hx]
theorem e2S (hN : maxLen < N) (rc : a01) {a b : List D} (ha : ∀ x ∈ a, c6E x = x) (hb : ∀ x ∈ b, c6E x = x) (hl : a.length + b.length ≤ 5000) (hap : ∀ x ∈ a, ∀ y ∈ b, cR x y ≠ 0) :
  ∃ nl, c3C N rc a b true [] = some (nl, a.merge b (leO cR)) := by
 have hm : maxLen = 9223372036854775807 := rfl
 have := a1Q (A := List D × List D × Bool × List D) (S := fun t kr => b3q N rc t.1 t.2.1 t.2.2.1 t.2.2.2 (fun a b f o => kr (a, b, f, o)) _) (L := fun f t => b6U N rc f t.1 t.2.1 t.2.2.1 t.2.2.2 (fun p => some p)) (fun f t => rfl)
  (fun t X => ∃ nl, X = some (nl, t.2.2.2 ++ t.1.merge t.2.1 (leO cR)))
  (fun t => (∀ x ∈ t.1, c6E x = x) ∧ (∀ x ∈ t.2.1, c6E x = x) ∧ t.1.length + t.2.1.length + t.2.2.2.length ≤ 5000 ∧ ∀ x ∈ t.1, ∀ y ∈ t.2.1, cR x y ≠ 0) (fun t => t.1.length + t.2.1.length) (fun ⟨a, b, f, o⟩ kr ⟨h1, h2, h3, h4⟩ ih => by
   simp only at h1 h2 h3 h4 ⊢
   simp only [b3q, a0o, d9j]
   match a, b with
   | [], [] => exact ⟨f, by simp⟩
   | x :: a, [] =>
    simp only [List.length_cons, List.length_nil] at h3
    have e : (bif decide (((x :: a).length : Int) > 0) then true else decide ((([] : List D).length : Int) > 0)) = true := by
     rw [decide_eq_true (by simp <;> omega)]; rfl
    rw [e]
    simp only [_root_.cond_true, Option.isSome_some, getD_some]
    rw [f2w rc [] (h1 x (by simp)) (by omega)]
    simp only [c1N, c1O, _root_.cond_true]
    obtain ⟨nl, hk⟩ := ih (a, [], false, o ++ [x]) ⟨fun y hy => h1 y (by simp [hy]), by simp, by simp <;> omega, by simp⟩ (by simp)
    refine ⟨nl, hk.trans ?_⟩
    simp
   | [], y :: b =>
    simp only [List.length_cons, List.length_nil] at h3
    have e : (bif decide ((([] : List D).length : Int) > 0) then true else decide (((y :: b).length : Int) > 0)) = true := by
     rw [decide_eq_true (p := ((y :: b).length : Int) > 0) (by simp <;> omega)]; rfl
    rw [e]
    simp only [_root_.cond_true, Option.isSome_some, getD_some]
    rw [f2x rc [] (h2 y (by simp)) (by omega)]
    simp only [a9z, a9A, _root_.cond_true, _root_.cond_false, Option.isSome_some, getD_some]
    obtain ⟨nl, hk⟩ := ih ([], b, false, o ++ [y]) ⟨by simp, fun z hz => h2 z (by simp [hz]), by simp <;> omega, by simp⟩ (by simp)
    refine ⟨nl, hk.trans ?_⟩
    simp
   | x :: a, y :: b =>
    simp only [List.length_cons] at h3
    have e : (bif decide (((x :: a).length : Int) > 0) then true else decide (((y :: b).length : Int) > 0)) = true := by
     rw [decide_eq_true (by simp <;> omega)]; rfl
    have hne := h4 x (by simp) y (by simp)
    have hbl : e8b x y = leO cR x y := by
     rw [Bool.eq_iff_iff, e2R, b1y e2Q]; omega
    rw [e]
    simp only [_root_.cond_true, Option.isSome_some, getD_some]
    cases hc : e8b x y with
    | true =>
     rw [f2w rc _ (h1 x (by simp)) (by omega)]
     simp only [c1N, c1O, _root_.cond_true]
     obtain ⟨nl, hk⟩ := ih (a, y :: b, false, o ++ [x]) ⟨fun z hz => h1 z (by simp [hz]), h2, by simp <;> omega, fun z hz => h4 z (by simp [hz])⟩ (by simp)
     refine ⟨nl, hk.trans ?_⟩
     rw [hc] at hbl
     rw [List.cons_merge_cons, ← hbl]
     simp
    | false =>
     rw [f2x rc _ (h2 y (by simp)) (by omega)]
     simp only [a9z, a9A, _root_.cond_true, _root_.cond_false, Option.isSome_some, getD_some]
     obtain ⟨nl, hk⟩ := ih (x :: a, b, false, o ++ [y]) ⟨h1, fun z hz => h2 z (by simp [hz]), by simp <;> omega, fun z hz w hw => h4 z hz w (by simp [hw])⟩ (by simp)
     refine ⟨nl, hk.trans ?_⟩
     rw [hc] at hbl
     rw [List.cons_merge_cons, ← hbl]
     simp) N (a, b, true, []) ⟨ha, hb, by simpa using hl, hap⟩ (by simp only; omega)
 obtain ⟨nl, h⟩ := this
 exact ⟨nl, by simpa [c3C] using h⟩
theorem b4x (hN : maxLen < N) : ∀ (m : Nat) (f : Bool) (l : List D), l.length < m → l.length ≤ 5000 → (∀ x ∈ l, c6E x = x) → (l.Pairwise fun x y => nmD x ≠ nmD y) →
  ∃ nl r, c3D N m f l = some (nl, r) ∧ r.Perm l ∧ r.Pairwise fun x y => leO cR x y = true
 | 0, _, _, h, _, _, _ => by omega
 | m + 1, f, l, h, h5, hx, hp => by
  have hm : maxLen = 9223372036854775807 := rfl
  show ∃ nl r, d24 N (c3D N m) f l = some (nl, r) ∧ _
  unfold d24 d75
  by_cases h2 : (l.length : Int) < 2
  ·rw [decide_eq_true h2, e7P h5]
   refine ⟨_, l, rfl, List.Perm.refl l, ?_⟩
   match l, h2 with
   | [], _ => exact .nil
   | [x], _ => simp
   | _ :: _ :: _, h2 => simp at h2; omega
  ·have hd : IntKind.wrap .i64 ((l.length : Int).tdiv 2) = ((l.length / 2 : Nat) : Int) := by
    rw [a2i] <;> rw [Int.tdiv_eq_ediv_of_nonneg (by omega)] <;> omega
   have hq : l.length / 2 ≤ l.length := Nat.div_le_self _ _
   rw [decide_eq_false h2, hd]
   have b1 : decide (0 ≤ ((l.length / 2 : Nat) : Int)) = true := decide_eq_true (by omega)
   have b2 : decide (((l.length / 2 : Nat) : Int) ≤ (l.length : Int)) = true := decide_eq_true (by omega)
   have b3 : decide ((l.length : Int) ≤ (l.length : Int)) = true := by simp
   rw [b1, b2, b3]
   simp only [Bool.and_true, _root_.cond_true, _root_.cond_false, a0o, Int.toNat_natCast, List.drop_zero, List.take_length]
   have s1 : (l.take (l.length / 2)).length = l.length / 2 := by rw [List.length_take]; omega
   have s2 : (l.drop (l.length / 2)).length = l.length - l.length / 2 := List.length_drop ..
   have hsub : (l.take (l.length / 2) ++ l.drop (l.length / 2)) = l := List.take_append_drop ..
   have hp' := hp
   rw [← hsub, List.pairwise_append] at hp'
   obtain ⟨p1, p2, p3⟩ := hp'
   obtain ⟨n1, r1, e1, q1, o1⟩ := b4x hN m f (l.take (l.length / 2)) (by omega) (by omega) (fun x h => hx x (List.mem_of_mem_take h)) p1
   obtain ⟨n2, r2, e2, q2, o2⟩ := b4x hN m f (l.drop (l.length / 2)) (by omega) (by omega) (fun x h => hx x (List.mem_of_mem_drop h)) p2
   rw [e1, e2]
   simp only [Option.isSome_some, _root_.cond_true, getD_some]
   obtain ⟨nl, e3⟩ := e2S hN (c3D N m) (a := r1) (b := r2) (fun x h => hx x (List.mem_of_mem_take (q1.mem_iff.1 h))) (fun x h => hx x (List.mem_of_mem_drop (q2.mem_iff.1 h))) (by rw [q1.length_eq, q2.length_eq]; omega)
    (fun x h y h' hc => p3 x (q1.mem_iff.1 h) y (q2.mem_iff.1 h') (c8T hc))
   rw [e3]
   refine ⟨nl, _, rfl, ?_, ?_⟩
   ·refine (List.merge_perm_append (xs := r1) (ys := r2) _).trans ((q1.append q2).trans ?_)
    rw [hsub]
   ·exact List.pairwise_merge (b80 e2Q) (c6D e2Q) r1 r2 o1 o2
end Go.Proofs.YtfkkcdapcgimlaaGreatDoor

namespace Go.Proofs.YtfkkcdapcgimlaaGreatDoor
open Go Go.AM
set_option maxRecDepth 100000
set_option maxHeartbeats 4000000
variable {N : Nat}
noncomputable abbrev a3F (N : Nat) (b x : D) : Option Bool := a8l N N (b.cell 4).toI (b.cell 5).toI (b.cell 6).toI (b.cell 7).toI (b.cell 8).toS (b.cell 9).isNil (b.cell 9).items (x.cell 0).toS (x.cell 1).toI (x.cell 2).toI (x.cell 3).toI (x.cell 4).toI (x.cell 5).toI (x.cell 6).toI (x.cell 7).isNil (x.cell 7).items
noncomputable abbrev d1s (N : Nat) (b x : D) : Option Bool := b9D N N (b.cell 4).toI (b.cell 5).toI (b.cell 6).toI (b.cell 7).toI (b.cell 8).toS (b.cell 9).isNil (b.cell 9).items (x.cell 0).toS (x.cell 1).toI (x.cell 2).toI (x.cell 3).toI (x.cell 4).toI (x.cell 5).toI (x.cell 6).toI (x.cell 7).isNil (x.cell 7).items
noncomputable def hbD (N : Nat) (b x : D) : Bool := (a3F N b x).getD false
theorem c6F (hN : maxLen < N) {b x : D} (hb : b1x b) (hk : d3n N b) (hx : c6A x) (h0 : e2P x = 0) : a3F N b x = some (hbD N b x) ∧ d1s N b x = some (hbD N b x) := by
 have hm : maxLen = 9223372036854775807 := rfl
 have hn := d9f h0
 have hM := hb.size
 obtain ⟨e', f1, f2, f3⟩ := a7q hN N (a2X (b.cell 9).items + 1) (b.cell 4).toI (b.cell 5).toI (b.cell 6).toI (b.cell 7).toI (b.cell 8).toS (b.cell 9).isNil (b.cell 9).items 0 (by omega) (by omega) hM hb.text (by omega) (by omega)
 obtain ⟨e'', g1, g2, _⟩ := a7q hN N N (b.cell 4).toI (b.cell 5).toI (b.cell 6).toI (b.cell 7).toI (b.cell 8).toS (b.cell 9).isNil (b.cell 9).items 0 (by omega) (by omega) hM hb.text (by omega) (by omega)
 rw [hk.cond] at g2
 have hz : e' = 0 := by rw [f1] at g1; rw [Option.some.inj g1, ← Option.some.inj g2]
 subst hz
 obtain ⟨c, b1, b2⟩ := c6z (v7 := (x.cell 0).toS) (v15 := (x.cell 7).items) (v8 := (x.cell 1).toI) (v9 := (x.cell 2).toI) (v10 := (x.cell 3).toI) (v11 := (x.cell 4).toI) (v12 := (x.cell 5).toI) (v13 := (x.cell 6).toI) (v14 := (x.cell 7).isNil) hN (by omega) hx.tags N N (b.cell 4).toI (b.cell 5).toI (b.cell 6).toI (b.cell 7).toI (b.cell 8).toS (b.cell 9).isNil (b.cell 9).items 0 (by omega) (by omega) hM hb.text (by omega) (by omega) f2
 have e : hbD N b x = c := by unfold hbD a3F; rw [b1]; rfl
 rw [e]
 exact ⟨b1, b2⟩
def c1d (x : D) : Int := IntKind.wrap .i64 ((x.cell 2).toI.tdiv 86400)
def f4o (x : D) : Ty1 := ((x.cell 0).toS, (x.cell 1).toI, (x.cell 2).toI, (x.cell 3).toI, (x.cell 4).toI, (x.cell 5).toI, (x.cell 6).toI, (x.cell 7).isNil, (x.cell 7).items)
def b4y : Option D → Option (Sum Ty1 Unit)
 | some x => some (.inl (f4o x))
 | none => some (.inr ())
def e8c : Option D → Ty0
 | some x => ((x.cell 0).toS, (x.cell 1).toI, (x.cell 2).toI, (x.cell 3).toI, (x.cell 4).toI, (x.cell 5).toI, (x.cell 6).toI, (x.cell 7).isNil, (x.cell 7).items, true)
 | none => ([], 0, 0, 0, 0, 0, 0, true, [], false)
def a3j (k fv h l d : Int) : Int × Int := bif k == 3 then (fv, l) else bif k == 4 then (bif d == l then h else bif (bif decide (l ≥ 0) then d == IntKind.wrap .i64 (l + 1) else false) then IntKind.wrap .i64 (h + 1) else 1, d) else (IntKind.wrap .i64 (h + fv), l)
def goP (hb : D → Bool) (fv : D → Int) (k n : Int) : Int → Int → List D → Option D
 | _, _, [] => none
 | h, l, x :: r => bif !hb x then goP hb fv k n h l r else bif decide ((a3j k (fv x) h l (c1d x)).1 ≥ n) then some x else goP hb fv k n (a3j k (fv x) h l (c1d x)).1 (a3j k (fv x) h l (c1d x)).2 r
theorem st0 (h l d k : Int) : a1C N h l d k (k == 3) = a3j k (1) h l d := by
 unfold a3j a1C a1B a2E a1A a2k a1i a2j a00
 simp only [a0o]
theorem f3X (hN : maxLen < N) {b : D} {l : List D} (hl : l.length ≤ maxLen) (hb : ∀ x ∈ l, a3F N b x = some (hbD N b x)) :
  a4P N l (l.length : Int) (b.cell 1).toI (b.cell 3).toI (b.cell 4).toI (b.cell 5).toI (b.cell 6).toI (b.cell 7).toI (b.cell 8).toS (b.cell 9).isNil (b.cell 9).items 0 (-1) 0 = b4y (goP (hbD N b) (fun x => 1) (b.cell 1).toI (b.cell 3).toI 0 (-1) l) := by
 have hm : maxLen = 9223372036854775807 := rfl
 unfold a4P
 have := a3O (A := Int × Int × Int) (S := fun a kr => a1r N l (l.length : Int) (b.cell 1).toI (b.cell 3).toI (b.cell 4).toI (b.cell 5).toI (b.cell 6).toI (b.cell 7).toI (b.cell 8).toS (b.cell 9).isNil (b.cell 9).items a.1 a.2.1 a.2.2 (fun x y z => kr (x, y, z)) _ _) (L := fun f a => a3q N l (l.length : Int) (b.cell 1).toI (b.cell 3).toI (b.cell 4).toI (b.cell 5).toI (b.cell 6).toI (b.cell 7).toI (b.cell 8).toS (b.cell 9).isNil (b.cell 9).items f a.1 a.2.1 a.2.2 (fun p => some (Sum.inl p)) (fun p => some (Sum.inr p))) (fun f a => rfl)
  (fun a => b4y (goP (hbD N b) (fun x => 1) (b.cell 1).toI (b.cell 3).toI a.1 a.2.1 (l.drop a.2.2.toNat))) (fun a => 0 ≤ a.2.2 ∧ a.2.2 ≤ l.length) (fun a => (l.length - a.2.2).toNat) (fun ⟨h, la, w⟩ kr ⟨h0, h1⟩ ih => by
   simp only at h0 h1 ⊢
   by_cases hw : w < l.length
   ·have hd := a2y (.i 0 : D) h0 hw
    have hx := hb _ (a0R h0 hw)
    unfold a3F at hx
    rw [hd]
    simp only [a1r, decide_eq_true hw, _root_.cond_true, a1x h0 hw, a0o]
    rw [hx, a2i (x := w + 1) (by omega) (by omega)]
    simp only [Option.isSome_some, _root_.cond_true, getD_some, st0, goP]
    cases hbD N b (l.getD w.toNat (.i 0)) with
    | false => exact ih (h, la, w + 1) ⟨by simp only; omega, by simp only; omega⟩ (by simp only; omega)
    | true =>
     simp only [Bool.not_true, _root_.cond_false]
     unfold c1d
     cases hc : decide ((a3j (b.cell 1).toI _ h la _).1 ≥ (b.cell 3).toI) with
     | true => rfl
     | false => exact ih (_, _, w + 1) ⟨by simp only; omega, by simp only; omega⟩ (by simp only; omega)
   ·rw [a1y hw]
    simp [a1r, hw, goP, b4y]) N (0, -1, 0) ⟨by simp, by simp⟩ (by simp only; omega)
 simpa using this
theorem st1 (h l d k a : Int) : a5J N h l d k (k == 3) a = a3j k (a) h l d := by
 unfold a3j a5J a5I a7N a5H a6o a4C a6n a3B
 simp only [a0o]
theorem f3Y (hN : maxLen < N) {b : D} {l : List D} (hl : l.length ≤ maxLen) (hb : ∀ x ∈ l, a3F N b x = some (hbD N b x)) :
  b8r N l (l.length : Int) (b.cell 1).toI (b.cell 3).toI (b.cell 4).toI (b.cell 5).toI (b.cell 6).toI (b.cell 7).toI (b.cell 8).toS (b.cell 9).isNil (b.cell 9).items 0 (-1) 0 = b4y (goP (hbD N b) (fun x => (x.cell 2).toI) (b.cell 1).toI (b.cell 3).toI 0 (-1) l) := by
 have hm : maxLen = 9223372036854775807 := rfl
 unfold b8r
 have := a3O (A := Int × Int × Int) (S := fun a kr => a69 N l (l.length : Int) (b.cell 1).toI (b.cell 3).toI (b.cell 4).toI (b.cell 5).toI (b.cell 6).toI (b.cell 7).toI (b.cell 8).toS (b.cell 9).isNil (b.cell 9).items a.1 a.2.1 a.2.2 (fun x y z => kr (x, y, z)) _ _) (L := fun f a => b2D N l (l.length : Int) (b.cell 1).toI (b.cell 3).toI (b.cell 4).toI (b.cell 5).toI (b.cell 6).toI (b.cell 7).toI (b.cell 8).toS (b.cell 9).isNil (b.cell 9).items f a.1 a.2.1 a.2.2 (fun p => some (Sum.inl p)) (fun p => some (Sum.inr p))) (fun f a => rfl)
  (fun a => b4y (goP (hbD N b) (fun x => (x.cell 2).toI) (b.cell 1).toI (b.cell 3).toI a.1 a.2.1 (l.drop a.2.2.toNat))) (fun a => 0 ≤ a.2.2 ∧ a.2.2 ≤ l.length) (fun a => (l.length - a.2.2).toNat) (fun ⟨h, la, w⟩ kr ⟨h0, h1⟩ ih => by
   simp only at h0 h1 ⊢
   by_cases hw : w < l.length
   ·have hd := a2y (.i 0 : D) h0 hw
    have hx := hb _ (a0R h0 hw)
    unfold a3F at hx
    rw [hd]
    simp only [a69, decide_eq_true hw, _root_.cond_true, a1x h0 hw, a0o]
    rw [hx, a2i (x := w + 1) (by omega) (by omega)]
    simp only [Option.isSome_some, _root_.cond_true, getD_some, st1, goP]
    cases hbD N b (l.getD w.toNat (.i 0)) with
    | false => exact ih (h, la, w + 1) ⟨by simp only; omega, by simp only; omega⟩ (by simp only; omega)
    | true =>
     simp only [Bool.not_true, _root_.cond_false]
     unfold c1d
     cases hc : decide ((a3j (b.cell 1).toI _ h la _).1 ≥ (b.cell 3).toI) with
     | true => rfl
     | false => exact ih (_, _, w + 1) ⟨by simp only; omega, by simp only; omega⟩ (by simp only; omega)
   ·rw [a1y hw]
    simp [a69, hw, goP, b4y]) N (0, -1, 0) ⟨by simp, by simp⟩ (by simp only; omega)
 simpa using this
theorem st2 (h l d k a : Int) : a4F N h l d k (k == 3) a = a3j k (IntKind.wrap .i64 (a.tdiv 86400)) h l d := by
 unfold a3j a4F a4E a6p a4D a5b a3Q a5a a2R c5P c0z
 simp only [a0o]
theorem f3Z (hN : maxLen < N) {b : D} {l : List D} (hl : l.length ≤ maxLen) (hb : ∀ x ∈ l, a3F N b x = some (hbD N b x)) :
  b4d N l (l.length : Int) (b.cell 1).toI (b.cell 3).toI (b.cell 4).toI (b.cell 5).toI (b.cell 6).toI (b.cell 7).toI (b.cell 8).toS (b.cell 9).isNil (b.cell 9).items 0 (-1) 0 = b4y (goP (hbD N b) (fun x => IntKind.wrap .i64 ((x.cell 2).toI.tdiv 86400)) (b.cell 1).toI (b.cell 3).toI 0 (-1) l) := by
 have hm : maxLen = 9223372036854775807 := rfl
 unfold b4d
 have := a3O (A := Int × Int × Int) (S := fun a kr => a5o N l (l.length : Int) (b.cell 1).toI (b.cell 3).toI (b.cell 4).toI (b.cell 5).toI (b.cell 6).toI (b.cell 7).toI (b.cell 8).toS (b.cell 9).isNil (b.cell 9).items a.1 a.2.1 a.2.2 (fun x y z => kr (x, y, z)) _ _) (L := fun f a => a9U N l (l.length : Int) (b.cell 1).toI (b.cell 3).toI (b.cell 4).toI (b.cell 5).toI (b.cell 6).toI (b.cell 7).toI (b.cell 8).toS (b.cell 9).isNil (b.cell 9).items f a.1 a.2.1 a.2.2 (fun p => some (Sum.inl p)) (fun p => some (Sum.inr p))) (fun f a => rfl)
  (fun a => b4y (goP (hbD N b) (fun x => IntKind.wrap .i64 ((x.cell 2).toI.tdiv 86400)) (b.cell 1).toI (b.cell 3).toI a.1 a.2.1 (l.drop a.2.2.toNat))) (fun a => 0 ≤ a.2.2 ∧ a.2.2 ≤ l.length) (fun a => (l.length - a.2.2).toNat) (fun ⟨h, la, w⟩ kr ⟨h0, h1⟩ ih => by
   simp only at h0 h1 ⊢
   by_cases hw : w < l.length
   ·have hd := a2y (.i 0 : D) h0 hw
    have hx := hb _ (a0R h0 hw)
    unfold a3F at hx
    rw [hd]
    simp only [a5o, decide_eq_true hw, _root_.cond_true, a1x h0 hw, a0o]
    rw [hx, a2i (x := w + 1) (by omega) (by omega)]
    simp only [Option.isSome_some, _root_.cond_true, getD_some, st2, goP]
    cases hbD N b (l.getD w.toNat (.i 0)) with
    | false => exact ih (h, la, w + 1) ⟨by simp only; omega, by simp only; omega⟩ (by simp only; omega)
    | true =>
     simp only [Bool.not_true, _root_.cond_false]
     unfold c1d
     cases hc : decide ((a3j (b.cell 1).toI _ h la _).1 ≥ (b.cell 3).toI) with
     | true => rfl
     | false => exact ih (_, _, w + 1) ⟨by simp only; omega, by simp only; omega⟩ (by simp only; omega)
   ·rw [a1y hw]
    simp [a5o, hw, goP, b4y]) N (0, -1, 0) ⟨by simp, by simp⟩ (by simp only; omega)
 simpa using this
theorem st3 (h l d k a : Int) : a3T N h l d k (k == 3) a = a3j k (a) h l d := by
 unfold a3j a3T a3S a5c a3R a4r a3d a4q a2u
 simp only [a0o]
theorem f30 (hN : maxLen < N) {b : D} {l : List D} (hl : l.length ≤ maxLen) (hb : ∀ x ∈ l, a3F N b x = some (hbD N b x)) :
  b1i N l (l.length : Int) (b.cell 1).toI (b.cell 3).toI (b.cell 4).toI (b.cell 5).toI (b.cell 6).toI (b.cell 7).toI (b.cell 8).toS (b.cell 9).isNil (b.cell 9).items 0 (-1) 0 = b4y (goP (hbD N b) (fun x => (x.cell 3).toI) (b.cell 1).toI (b.cell 3).toI 0 (-1) l) := by
 have hm : maxLen = 9223372036854775807 := rfl
 unfold b1i
 have := a3O (A := Int × Int × Int) (S := fun a kr => a4m N l (l.length : Int) (b.cell 1).toI (b.cell 3).toI (b.cell 4).toI (b.cell 5).toI (b.cell 6).toI (b.cell 7).toI (b.cell 8).toS (b.cell 9).isNil (b.cell 9).items a.1 a.2.1 a.2.2 (fun x y z => kr (x, y, z)) _ _) (L := fun f a => a7O N l (l.length : Int) (b.cell 1).toI (b.cell 3).toI (b.cell 4).toI (b.cell 5).toI (b.cell 6).toI (b.cell 7).toI (b.cell 8).toS (b.cell 9).isNil (b.cell 9).items f a.1 a.2.1 a.2.2 (fun p => some (Sum.inl p)) (fun p => some (Sum.inr p))) (fun f a => rfl)
  (fun a => b4y (goP (hbD N b) (fun x => (x.cell 3).toI) (b.cell 1).toI (b.cell 3).toI a.1 a.2.1 (l.drop a.2.2.toNat))) (fun a => 0 ≤ a.2.2 ∧ a.2.2 ≤ l.length) (fun a => (l.length - a.2.2).toNat) (fun ⟨h, la, w⟩ kr ⟨h0, h1⟩ ih => by
   simp only at h0 h1 ⊢
   by_cases hw : w < l.length
   ·have hd := a2y (.i 0 : D) h0 hw
    have hx := hb _ (a0R h0 hw)
    unfold a3F at hx
    rw [hd]
    simp only [a4m, decide_eq_true hw, _root_.cond_true, a1x h0 hw, a0o]
    rw [hx, a2i (x := w + 1) (by omega) (by omega)]
    simp only [Option.isSome_some, _root_.cond_true, getD_some, st3, goP]
    cases hbD N b (l.getD w.toNat (.i 0)) with
    | false => exact ih (h, la, w + 1) ⟨by simp only; omega, by simp only; omega⟩ (by simp only; omega)
    | true =>
     simp only [Bool.not_true, _root_.cond_false]
     unfold c1d
     cases hc : decide ((a3j (b.cell 1).toI _ h la _).1 ≥ (b.cell 3).toI) with
     | true => rfl
     | false => exact ih (_, _, w + 1) ⟨by simp only; omega, by simp only; omega⟩ (by simp only; omega)
   ·rw [a1y hw]
    simp [a4m, hw, goP, b4y]) N (0, -1, 0) ⟨by simp, by simp⟩ (by simp only; omega)
 simpa using this
theorem st4 (h l d k a : Int) : a3g N h l d k (k == 3) a = a3j k (a) h l d := by
 unfold a3j a3g a3f a4s a3e a3V a2K a3U a1J
 simp only [a0o]
theorem f31 (hN : maxLen < N) {b : D} {l : List D} (hl : l.length ≤ maxLen) (hb : ∀ x ∈ l, a3F N b x = some (hbD N b x)) :
  a82 N l (l.length : Int) (b.cell 1).toI (b.cell 3).toI (b.cell 4).toI (b.cell 5).toI (b.cell 6).toI (b.cell 7).toI (b.cell 8).toS (b.cell 9).isNil (b.cell 9).items 0 (-1) 0 = b4y (goP (hbD N b) (fun x => (x.cell 4).toI) (b.cell 1).toI (b.cell 3).toI 0 (-1) l) := by
 have hm : maxLen = 9223372036854775807 := rfl
 unfold a82
 have := a3O (A := Int × Int × Int) (S := fun a kr => a3D N l (l.length : Int) (b.cell 1).toI (b.cell 3).toI (b.cell 4).toI (b.cell 5).toI (b.cell 6).toI (b.cell 7).toI (b.cell 8).toS (b.cell 9).isNil (b.cell 9).items a.1 a.2.1 a.2.2 (fun x y z => kr (x, y, z)) _ _) (L := fun f a => a6q N l (l.length : Int) (b.cell 1).toI (b.cell 3).toI (b.cell 4).toI (b.cell 5).toI (b.cell 6).toI (b.cell 7).toI (b.cell 8).toS (b.cell 9).isNil (b.cell 9).items f a.1 a.2.1 a.2.2 (fun p => some (Sum.inl p)) (fun p => some (Sum.inr p))) (fun f a => rfl)
  (fun a => b4y (goP (hbD N b) (fun x => (x.cell 4).toI) (b.cell 1).toI (b.cell 3).toI a.1 a.2.1 (l.drop a.2.2.toNat))) (fun a => 0 ≤ a.2.2 ∧ a.2.2 ≤ l.length) (fun a => (l.length - a.2.2).toNat) (fun ⟨h, la, w⟩ kr ⟨h0, h1⟩ ih => by
   simp only at h0 h1 ⊢
   by_cases hw : w < l.length
   ·have hd := a2y (.i 0 : D) h0 hw
    have hx := hb _ (a0R h0 hw)
    unfold a3F at hx
    rw [hd]
    simp only [a3D, decide_eq_true hw, _root_.cond_true, a1x h0 hw, a0o]
    rw [hx, a2i (x := w + 1) (by omega) (by omega)]
    simp only [Option.isSome_some, _root_.cond_true, getD_some, st4, goP]
    cases hbD N b (l.getD w.toNat (.i 0)) with
    | false => exact ih (h, la, w + 1) ⟨by simp only; omega, by simp only; omega⟩ (by simp only; omega)
    | true =>
     simp only [Bool.not_true, _root_.cond_false]
     unfold c1d
     cases hc : decide ((a3j (b.cell 1).toI _ h la _).1 ≥ (b.cell 3).toI) with
     | true => rfl
     | false => exact ih (_, _, w + 1) ⟨by simp only; omega, by simp only; omega⟩ (by simp only; omega)
   ·rw [a1y hw]
    simp [a3D, hw, goP, b4y]) N (0, -1, 0) ⟨by simp, by simp⟩ (by simp only; omega)
 simpa using this
theorem st5 (h l d k a : Int) : a2N N h l d k (k == 3) a = a3j k (a) h l d := by
 unfold a3j a2N a2M a3W a2L a3o a2p a3n a1p
 simp only [a0o]
theorem f32 (hN : maxLen < N) {b : D} {l : List D} (hl : l.length ≤ maxLen) (hb : ∀ x ∈ l, a3F N b x = some (hbD N b x)) :
  a7Q N l (l.length : Int) (b.cell 1).toI (b.cell 3).toI (b.cell 4).toI (b.cell 5).toI (b.cell 6).toI (b.cell 7).toI (b.cell 8).toS (b.cell 9).isNil (b.cell 9).items 0 (-1) 0 = b4y (goP (hbD N b) (fun x => (x.cell 5).toI) (b.cell 1).toI (b.cell 3).toI 0 (-1) l) := by
 have hm : maxLen = 9223372036854775807 := rfl
 unfold a7Q
 have := a3O (A := Int × Int × Int) (S := fun a kr => a2T N l (l.length : Int) (b.cell 1).toI (b.cell 3).toI (b.cell 4).toI (b.cell 5).toI (b.cell 6).toI (b.cell 7).toI (b.cell 8).toS (b.cell 9).isNil (b.cell 9).items a.1 a.2.1 a.2.2 (fun x y z => kr (x, y, z)) _ _) (L := fun f a => a5d N l (l.length : Int) (b.cell 1).toI (b.cell 3).toI (b.cell 4).toI (b.cell 5).toI (b.cell 6).toI (b.cell 7).toI (b.cell 8).toS (b.cell 9).isNil (b.cell 9).items f a.1 a.2.1 a.2.2 (fun p => some (Sum.inl p)) (fun p => some (Sum.inr p))) (fun f a => rfl)
  (fun a => b4y (goP (hbD N b) (fun x => (x.cell 5).toI) (b.cell 1).toI (b.cell 3).toI a.1 a.2.1 (l.drop a.2.2.toNat))) (fun a => 0 ≤ a.2.2 ∧ a.2.2 ≤ l.length) (fun a => (l.length - a.2.2).toNat) (fun ⟨h, la, w⟩ kr ⟨h0, h1⟩ ih => by
   simp only at h0 h1 ⊢
   by_cases hw : w < l.length
   ·have hd := a2y (.i 0 : D) h0 hw
    have hx := hb _ (a0R h0 hw)
    unfold a3F at hx
    rw [hd]
    simp only [a2T, decide_eq_true hw, _root_.cond_true, a1x h0 hw, a0o]
    rw [hx, a2i (x := w + 1) (by omega) (by omega)]
    simp only [Option.isSome_some, _root_.cond_true, getD_some, st5, goP]
    cases hbD N b (l.getD w.toNat (.i 0)) with
    | false => exact ih (h, la, w + 1) ⟨by simp only; omega, by simp only; omega⟩ (by simp only; omega)
    | true =>
     simp only [Bool.not_true, _root_.cond_false]
     unfold c1d
     cases hc : decide ((a3j (b.cell 1).toI _ h la _).1 ≥ (b.cell 3).toI) with
     | true => rfl
     | false => exact ih (_, _, w + 1) ⟨by simp only; omega, by simp only; omega⟩ (by simp only; omega)
   ·rw [a1y hw]
    simp [a2T, hw, goP, b4y]) N (0, -1, 0) ⟨by simp, by simp⟩ (by simp only; omega)
 simpa using this
theorem st6 (h l d k a : Int) : a2s N h l d k (k == 3) a = a3j k (a) h l d := by
 unfold a3j a2s a2r a3p a2q a2V a1K a2U a1f
 simp only [a0o]
theorem f33 (hN : maxLen < N) {b : D} {l : List D} (hl : l.length ≤ maxLen) (hb : ∀ x ∈ l, a3F N b x = some (hbD N b x)) :
  a6P N l (l.length : Int) (b.cell 1).toI (b.cell 3).toI (b.cell 4).toI (b.cell 5).toI (b.cell 6).toI (b.cell 7).toI (b.cell 8).toS (b.cell 9).isNil (b.cell 9).items 0 (-1) 0 = b4y (goP (hbD N b) (fun x => (x.cell 6).toI) (b.cell 1).toI (b.cell 3).toI 0 (-1) l) := by
 have hm : maxLen = 9223372036854775807 := rfl
 unfold a6P
 have := a3O (A := Int × Int × Int) (S := fun a kr => a2w N l (l.length : Int) (b.cell 1).toI (b.cell 3).toI (b.cell 4).toI (b.cell 5).toI (b.cell 6).toI (b.cell 7).toI (b.cell 8).toS (b.cell 9).isNil (b.cell 9).items a.1 a.2.1 a.2.2 (fun x y z => kr (x, y, z)) _ _) (L := fun f a => a4t N l (l.length : Int) (b.cell 1).toI (b.cell 3).toI (b.cell 4).toI (b.cell 5).toI (b.cell 6).toI (b.cell 7).toI (b.cell 8).toS (b.cell 9).isNil (b.cell 9).items f a.1 a.2.1 a.2.2 (fun p => some (Sum.inl p)) (fun p => some (Sum.inr p))) (fun f a => rfl)
  (fun a => b4y (goP (hbD N b) (fun x => (x.cell 6).toI) (b.cell 1).toI (b.cell 3).toI a.1 a.2.1 (l.drop a.2.2.toNat))) (fun a => 0 ≤ a.2.2 ∧ a.2.2 ≤ l.length) (fun a => (l.length - a.2.2).toNat) (fun ⟨h, la, w⟩ kr ⟨h0, h1⟩ ih => by
   simp only at h0 h1 ⊢
   by_cases hw : w < l.length
   ·have hd := a2y (.i 0 : D) h0 hw
    have hx := hb _ (a0R h0 hw)
    unfold a3F at hx
    rw [hd]
    simp only [a2w, decide_eq_true hw, _root_.cond_true, a1x h0 hw, a0o]
    rw [hx, a2i (x := w + 1) (by omega) (by omega)]
    simp only [Option.isSome_some, _root_.cond_true, getD_some, st6, goP]
    cases hbD N b (l.getD w.toNat (.i 0)) with
    | false => exact ih (h, la, w + 1) ⟨by simp only; omega, by simp only; omega⟩ (by simp only; omega)
    | true =>
     simp only [Bool.not_true, _root_.cond_false]
     unfold c1d
     cases hc : decide ((a3j (b.cell 1).toI _ h la _).1 ≥ (b.cell 3).toI) with
     | true => rfl
     | false => exact ih (_, _, w + 1) ⟨by simp only; omega, by simp only; omega⟩ (by simp only; omega)
   ·rw [a1y hw]
    simp [a2w, hw, goP, b4y]) N (0, -1, 0) ⟨by simp, by simp⟩ (by simp only; omega)
 simpa using this
theorem st7 (h l d k a : Int) : a1O N h l d k (k == 3) a = a3j k ((IntKind.wrap .i64 (a.tdiv 86400)).tmod 7) h l d := by
 unfold a3j a1O a1N a2W a1M a2D a1z a2C a05 c5V c0A
 simp only [a0o]
theorem f34 (hN : maxLen < N) {b : D} {l : List D} (hl : l.length ≤ maxLen) (hb : ∀ x ∈ l, a3F N b x = some (hbD N b x)) :
  a5R N l (l.length : Int) (b.cell 1).toI (b.cell 3).toI (b.cell 4).toI (b.cell 5).toI (b.cell 6).toI (b.cell 7).toI (b.cell 8).toS (b.cell 9).isNil (b.cell 9).items 0 (-1) 0 = b4y (goP (hbD N b) (fun x => (IntKind.wrap .i64 ((x.cell 2).toI.tdiv 86400)).tmod 7) (b.cell 1).toI (b.cell 3).toI 0 (-1) l) := by
 have hm : maxLen = 9223372036854775807 := rfl
 unfold a5R
 have := a3O (A := Int × Int × Int) (S := fun a kr => a1P N l (l.length : Int) (b.cell 1).toI (b.cell 3).toI (b.cell 4).toI (b.cell 5).toI (b.cell 6).toI (b.cell 7).toI (b.cell 8).toS (b.cell 9).isNil (b.cell 9).items a.1 a.2.1 a.2.2 (fun x y z => kr (x, y, z)) _ _) (L := fun f a => a3Y N l (l.length : Int) (b.cell 1).toI (b.cell 3).toI (b.cell 4).toI (b.cell 5).toI (b.cell 6).toI (b.cell 7).toI (b.cell 8).toS (b.cell 9).isNil (b.cell 9).items f a.1 a.2.1 a.2.2 (fun p => some (Sum.inl p)) (fun p => some (Sum.inr p))) (fun f a => rfl)
  (fun a => b4y (goP (hbD N b) (fun x => (IntKind.wrap .i64 ((x.cell 2).toI.tdiv 86400)).tmod 7) (b.cell 1).toI (b.cell 3).toI a.1 a.2.1 (l.drop a.2.2.toNat))) (fun a => 0 ≤ a.2.2 ∧ a.2.2 ≤ l.length) (fun a => (l.length - a.2.2).toNat) (fun ⟨h, la, w⟩ kr ⟨h0, h1⟩ ih => by
   simp only at h0 h1 ⊢
   by_cases hw : w < l.length
   ·have hd := a2y (.i 0 : D) h0 hw
    have hx := hb _ (a0R h0 hw)
    unfold a3F at hx
    rw [hd]
    simp only [a1P, decide_eq_true hw, _root_.cond_true, a1x h0 hw, a0o]
    rw [hx, a2i (x := w + 1) (by omega) (by omega)]
    simp only [Option.isSome_some, _root_.cond_true, getD_some, st7, goP]
    cases hbD N b (l.getD w.toNat (.i 0)) with
    | false => exact ih (h, la, w + 1) ⟨by simp only; omega, by simp only; omega⟩ (by simp only; omega)
    | true =>
     simp only [Bool.not_true, _root_.cond_false]
     unfold c1d
     cases hc : decide ((a3j (b.cell 1).toI _ h la _).1 ≥ (b.cell 3).toI) with
     | true => rfl
     | false => exact ih (_, _, w + 1) ⟨by simp only; omega, by simp only; omega⟩ (by simp only; omega)
   ·rw [a1y hw]
    simp [a1P, hw, goP, b4y]) N (0, -1, 0) ⟨by simp, by simp⟩ (by simp only; omega)
 simpa using this
end Go.Proofs.YtfkkcdapcgimlaaGreatDoor

namespace Go.Proofs.YtfkkcdapcgimlaaGreatDoor
open Go Go.AM
set_option maxRecDepth 100000
set_option maxHeartbeats 4000000
variable {N : Nat}
noncomputable def fvF (f : Int) (x : D) : Int := bif f == 0 then 1 else c6m 0 (x.cell 2).toI (x.cell 3).toI (x.cell 4).toI (x.cell 5).toI (x.cell 6).toI f
theorem e7Q {f : Int} (h : inI f 1 7 = true) : f = 1 ∨ f = 2 ∨ f = 3 ∨ f = 4 ∨ f = 5 ∨ f = 6 ∨ f = 7 := by
 unfold inI at h; simp at h; omega
theorem d9k (hN : maxLen < N) {b : D} {l : List D} (hl : l.length ≤ maxLen) (hb : ∀ x ∈ l, a3F N b x = some (hbD N b x)) (hf : (b.cell 2).toI = 0 ∨ inI (b.cell 2).toI 1 7 = true) :
  d2J N (b.cell 1).toI (b.cell 2).toI (b.cell 3).toI (b.cell 4).toI (b.cell 5).toI (b.cell 6).toI (b.cell 7).toI (b.cell 8).toS (b.cell 9).isNil (b.cell 9).items l = some (e8c (goP (hbD N b) (fvF (b.cell 2).toI) (b.cell 1).toI (b.cell 3).toI 0 (-1) l)) := by
 unfold d2J d6T
 rw [f3X hN hl hb, f3Y hN hl hb, f3Z hN hl hb, f30 hN hl hb, f31 hN hl hb, f32 hN hl hb, f33 hN hl hb, f34 hN hl hb]
 rcases hf with hf | hf
 ·rw [hf]
  have e : fvF 0 = fun _ => (1 : Int) := rfl
  rw [e]
  cases goP (hbD N b) (fun _ => (1 : Int)) (b.cell 1).toI (b.cell 3).toI 0 (-1) l <;> rfl
 ·rcases e7Q hf with h | h | h | h | h | h | h
  ·rw [h]
   have e : fvF 1 = fun x => (x.cell 2).toI := rfl
   rw [e]
   cases goP (hbD N b) (fun x => (x.cell 2).toI) (b.cell 1).toI (b.cell 3).toI 0 (-1) l <;> rfl
  ·rw [h]
   have e : fvF 2 = fun x => IntKind.wrap .i64 ((x.cell 2).toI.tdiv 86400) := rfl
   rw [e]
   cases goP (hbD N b) (fun x => IntKind.wrap .i64 ((x.cell 2).toI.tdiv 86400)) (b.cell 1).toI (b.cell 3).toI 0 (-1) l <;> rfl
  ·rw [h]
   have e : fvF 3 = fun x => (x.cell 3).toI := rfl
   rw [e]
   cases goP (hbD N b) (fun x => (x.cell 3).toI) (b.cell 1).toI (b.cell 3).toI 0 (-1) l <;> rfl
  ·rw [h]
   have e : fvF 4 = fun x => (x.cell 4).toI := rfl
   rw [e]
   cases goP (hbD N b) (fun x => (x.cell 4).toI) (b.cell 1).toI (b.cell 3).toI 0 (-1) l <;> rfl
  ·rw [h]
   have e : fvF 5 = fun x => (x.cell 5).toI := rfl
   rw [e]
   cases goP (hbD N b) (fun x => (x.cell 5).toI) (b.cell 1).toI (b.cell 3).toI 0 (-1) l <;> rfl
  ·rw [h]
   have e : fvF 6 = fun x => (x.cell 6).toI := rfl
   rw [e]
   cases goP (hbD N b) (fun x => (x.cell 6).toI) (b.cell 1).toI (b.cell 3).toI 0 (-1) l <;> rfl
  ·rw [h]
   have e : fvF 7 = fun x => (IntKind.wrap .i64 ((x.cell 2).toI.tdiv 86400)).tmod 7 := rfl
   rw [e]
   cases goP (hbD N b) (fun x => (IntKind.wrap .i64 ((x.cell 2).toI.tdiv 86400)).tmod 7) (b.cell 1).toI (b.cell 3).toI 0 (-1) l <;> rfl
def skR (sk la d : Int) : Int := bif d == IntKind.wrap .i64 (la + 1) then IntKind.wrap .i64 (sk + 1) else bif d != la then 1 else sk
def e4q (k n many sm fv sk : Int) : Bool := bif k == 1 then decide (many ≥ n) else bif k == 2 then decide (sm ≥ n) else bif k == 3 then decide (fv ≥ n) else decide (sk ≥ n)
def goR (hb : D → Bool) (fv : D → Int) (isF : Bool) (k n : Int) : Int → Int → Int → Int → List D → Option D
 | _, _, _, _, [] => none
 | m, sm, sk, la, x :: r => bif !hb x then goR hb fv isF k n m sm sk la r else
   bif e4q k n (IntKind.wrap .i64 (m + 1)) (bif isF then IntKind.wrap .i64 (sm + fv x) else sm) (fv x) (skR sk la (c1d x)) then some x
   else goR hb fv isF k n (IntKind.wrap .i64 (m + 1)) (bif isF then IntKind.wrap .i64 (sm + fv x) else sm) (skR sk la (c1d x)) (c1d x) r
noncomputable def fvR (f : Int) (x : D) : Int := c6m 0 (x.cell 2).toI (x.cell 3).toI (x.cell 4).toI (x.cell 5).toI (x.cell 6).toI f
theorem f4p (sk la d : Int) : a54 N sk la d (d == IntKind.wrap .i64 (la + 1)) = skR sk la d := by
 unfold a54 a52 b66 b0a skR
 simp only [a0o]
theorem f4q (sm : Int) (w : Bool) (f a b c d e : Int) : b3y N sm w f a b c d e = bif w then IntKind.wrap .i64 (sm + c6m 0 a b c d e f) else sm := by
 unfold b3y b3x
 simp only [a0o]
 rfl
theorem f4r (m sm sk k f n a b c d e : Int) : a59 N m sm sk k (k == 1) f n a b c d e = e4q k n m sm (c6m 0 a b c d e f) sk := by
 unfold a59 a58 a7V a57 a7U a56 e4q
 simp only [a0o]
 rfl
theorem f35 (hN : maxLen < N) {b : D} {l : List D} (hl : l.length ≤ maxLen) (hb : ∀ x ∈ l, d1s N b x = some (hbD N b x)) :
  c8F N l (l.length : Int) (b.cell 1).toI (b.cell 2).toI (b.cell 3).toI (b.cell 4).toI (b.cell 5).toI (b.cell 6).toI (b.cell 7).toI (b.cell 8).toS (b.cell 9).isNil (b.cell 9).items 0 0 0 (-2) 0 = b4y (goR (hbD N b) (fvR (b.cell 2).toI) (inI (b.cell 2).toI 1 7) (b.cell 1).toI (b.cell 3).toI 0 0 0 (-2) l) := by
 have hm : maxLen = 9223372036854775807 := rfl
 unfold c8F
 have := a3O (A := Int × Int × Int × Int × Int) (S := fun a kr => b4u N l (l.length : Int) (b.cell 1).toI (b.cell 2).toI (b.cell 3).toI (b.cell 4).toI (b.cell 5).toI (b.cell 6).toI (b.cell 7).toI (b.cell 8).toS (b.cell 9).isNil (b.cell 9).items a.1 a.2.1 a.2.2.1 a.2.2.2.1 a.2.2.2.2 (fun x y z u v => kr (x, y, z, u, v)) _ _) (L := fun f a => c3M N l (l.length : Int) (b.cell 1).toI (b.cell 2).toI (b.cell 3).toI (b.cell 4).toI (b.cell 5).toI (b.cell 6).toI (b.cell 7).toI (b.cell 8).toS (b.cell 9).isNil (b.cell 9).items f a.1 a.2.1 a.2.2.1 a.2.2.2.1 a.2.2.2.2 (fun p => some (Sum.inl p)) (fun p => some (Sum.inr p))) (fun f a => rfl)
  (fun a => b4y (goR (hbD N b) (fvR (b.cell 2).toI) (inI (b.cell 2).toI 1 7) (b.cell 1).toI (b.cell 3).toI a.1 a.2.1 a.2.2.1 a.2.2.2.1 (l.drop a.2.2.2.2.toNat))) (fun a => 0 ≤ a.2.2.2.2 ∧ a.2.2.2.2 ≤ l.length) (fun a => (l.length - a.2.2.2.2).toNat) (fun ⟨m, sm, sk, la, w⟩ kr ⟨h0, h1⟩ ih => by
   simp only at h0 h1 ⊢
   by_cases hw : w < l.length
   ·have hd := a2y (.i 0 : D) h0 hw
    have hx := hb _ (a0R h0 hw)
    unfold d1s at hx
    rw [hd]
    simp only [b4u, decide_eq_true hw, _root_.cond_true, a1x h0 hw, a0o]
    rw [hx, a2i (x := w + 1) (by omega) (by omega)]
    simp only [Option.isSome_some, _root_.cond_true, getD_some, f4p, f4q, f4r, c30, goR]
    cases hbD N b (l.getD w.toNat (.i 0)) with
    | false => exact ih (m, sm, sk, la, w + 1) ⟨by simp only; omega, by simp only; omega⟩ (by simp only; omega)
    | true =>
     simp only [Bool.not_true, _root_.cond_false]
     unfold c1d fvR
     generalize hg : e4q _ _ _ _ _ _ = g
     cases g with
     | true => rfl
     | false => exact ih (_, _, _, _, w + 1) ⟨by simp only; omega, by simp only; omega⟩ (by simp only; omega)
   ·rw [a1y hw]
    simp [b4u, hw, goR, b4y]) N (0, 0, 0, -2, 0) ⟨by simp, by simp⟩ (by simp only; omega)
 simpa using this
theorem e7R (hN : maxLen < N) {b : D} {l : List D} (hl : l.length ≤ maxLen) (hb : ∀ x ∈ l, d1s N b x = some (hbD N b x)) :
  d3c N (b.cell 1).toI (b.cell 2).toI (b.cell 3).toI (b.cell 4).toI (b.cell 5).toI (b.cell 6).toI (b.cell 7).toI (b.cell 8).toS (b.cell 9).isNil (b.cell 9).items l = some (e8c (goR (hbD N b) (fvR (b.cell 2).toI) (inI (b.cell 2).toI 1 7) (b.cell 1).toI (b.cell 3).toI 0 0 0 (-2) l)) := by
 unfold d3c d8u
 rw [f35 hN hl hb]
 cases goR (hbD N b) (fvR (b.cell 2).toI) (inI (b.cell 2).toI 1 7) (b.cell 1).toI (b.cell 3).toI 0 0 0 (-2) l <;> rfl
def f36 (k h la m sm sk la' : Int) : Prop := k = 1 ∧ h = m ∨ k = 2 ∧ h = sm ∨ k = 3 ∨ k = 4 ∧ h = sk ∧ (la = -1 ∧ la' = -2 ∨ la = la' ∧ 0 ≤ la ∧ la ≤ 1000000)
theorem d9l {hb : D → Bool} {f k n : Int} (hk : inI k 1 4 = true) (hf : (k = 2 ∨ k = 3) ∧ inI f 1 7 = true ∨ ¬ (k = 2 ∨ k = 3) ∧ f = 0) :
  ∀ (l : List D) (h la m sm sk la' : Int), (∀ x ∈ l, 0 ≤ (x.cell 2).toI ∧ (x.cell 2).toI ≤ 86399999999) → f36 k h la m sm sk la' → goP hb (fvF f) k n h la l = goR hb (fvR f) (inI f 1 7) k n m sm sk la' l
 | [], _, _, _, _, _, _, _, _ => rfl
 | x :: l, h, la, m, sm, sk, la', hx, hr => by
  have ih := fun h la m sm sk la' => d9l (hb := hb) (f := f) (k := k) (n := n) hk hf l h la m sm sk la' (fun y hy => hx y (by simp [hy]))
  obtain ⟨hx0, hx1⟩ := hx x (by simp)
  have hd : c1d x = (x.cell 2).toI / 86400 := by
   unfold c1d
   rw [Int.tdiv_eq_ediv_of_nonneg hx0, a2i (by omega) (by omega)]
  have hd0 : 0 ≤ c1d x ∧ c1d x ≤ 1000000 := by rw [hd]; omega
  simp only [goP, goR]
  cases hb x with
  | false => exact ih _ _ _ _ _ _ hr
  | true =>
   simp only [Bool.not_true, _root_.cond_false]
   generalize c1d x = d at *
   rcases hr with ⟨rfl, rfl⟩ | ⟨rfl, rfl⟩ | rfl | ⟨rfl, rfl, hl⟩
   ·obtain ⟨_, rfl⟩ : ¬((1 : Int) = 2 ∨ (1 : Int) = 3) ∧ f = 0 := by rcases hf with ⟨h, _⟩ | h; omega; exact h
    have e1 : a3j 1 (fvF 0 x) h la d = (IntKind.wrap .i64 (h + 1), la) := rfl
    rw [e1]
    have e2 : ∀ sm sk, e4q 1 n (IntKind.wrap .i64 (h + 1)) sm (fvR 0 x) sk = decide (IntKind.wrap .i64 (h + 1) ≥ n) := fun _ _ => rfl
    rw [e2]
    cases decide (IntKind.wrap .i64 (h + 1) ≥ n) with
    | true => rfl
    | false => exact ih _ _ _ _ _ _ (.inl ⟨rfl, rfl⟩)
   ·obtain ⟨_, hf⟩ : ((2 : Int) = 2 ∨ (2 : Int) = 3) ∧ inI f 1 7 = true := by rcases hf with h | ⟨h, _⟩; exact h; omega
    have ef : fvF f x = fvR f x := by
     have : (f == 0) = false := by rcases e7Q hf with h | h | h | h | h | h | h <;> subst h <;> rfl
     unfold fvF fvR; rw [this]; rfl
    have e1 : a3j 2 (fvF f x) h la d = (IntKind.wrap .i64 (h + fvF f x), la) := rfl
    rw [e1, ef, hf]
    simp only [_root_.cond_true]
    have e2 : ∀ m sk, e4q 2 n m (IntKind.wrap .i64 (h + fvR f x)) (fvR f x) sk = decide (IntKind.wrap .i64 (h + fvR f x) ≥ n) := fun _ _ => rfl
    rw [e2]
    cases decide (IntKind.wrap .i64 (h + fvR f x) ≥ n) with
    | true => rfl
    | false => rw [hf] at ih; exact ih _ _ _ _ _ _ (.inr (.inl ⟨rfl, rfl⟩))
   ·obtain ⟨_, hf⟩ : ((3 : Int) = 2 ∨ (3 : Int) = 3) ∧ inI f 1 7 = true := by rcases hf with h | ⟨h, _⟩; exact h; omega
    have ef : fvF f x = fvR f x := by
     have : (f == 0) = false := by rcases e7Q hf with h | h | h | h | h | h | h <;> subst h <;> rfl
     unfold fvF fvR; rw [this]; rfl
    have e1 : a3j 3 (fvF f x) h la d = (fvF f x, la) := rfl
    rw [e1, ef]
    have e2 : ∀ m sm sk, e4q 3 n m sm (fvR f x) sk = decide (fvR f x ≥ n) := fun _ _ _ => rfl
    rw [e2]
    cases decide (fvR f x ≥ n) with
    | true => rfl
    | false => exact ih _ _ _ _ _ _ (.inr (.inr (.inl rfl)))
   ·have e1 : a3j 4 (fvF f x) h la d = (skR h la' d, d) := by
     unfold a3j skR
     simp only [show ((4 : Int) == 3) = false from rfl, show ((4 : Int) == 4) = true from rfl, _root_.cond_true, _root_.cond_false]
     congr 1
     rcases hl with ⟨rfl, rfl⟩ | ⟨rfl, h0, h1⟩
     ·have q1 : (d == (-1 : Int)) = false := by simp; omega
      have q2 : (d == IntKind.wrap .i64 ((-2 : Int) + 1)) = false := by rw [a2i (by omega) (by omega)]; simp; omega
      have q3 : (d != (-2 : Int)) = true := by simp; omega
      rw [q1, q2, q3]
      rfl
     ·rw [a2i (by omega) (by omega), decide_eq_true (show la ≥ 0 from h0)]
      by_cases q : d = la
      ·subst q
       have q2 : (d == d + 1) = false := by simp; omega
       simp [q2]
      ·have q1 : (d == la) = false := by simp [q]
       have q3 : (d != la) = true := by simp [q]
       simp only [q1, q3, _root_.cond_true, _root_.cond_false]
    rw [e1]
    have e2 : ∀ m sm, e4q 4 n m sm (fvR f x) (skR h la' d) = decide (skR h la' d ≥ n) := fun _ _ => rfl
    rw [e2]
    cases decide (skR h la' d ≥ n) with
    | true => rfl
    | false => exact ih _ _ _ _ _ _ (.inr (.inr (.inr ⟨rfl, rfl, .inr ⟨rfl, hd0.1, hd0.2⟩⟩)))
end Go.Proofs.YtfkkcdapcgimlaaGreatDoor

namespace Go.Proofs.YtfkkcdapcgimlaaGreatDoor
open Go Go.AM Go.Sort
set_option maxRecDepth 100000
set_option maxHeartbeats 4000000
variable {N : Nat}
def cE (x y : D) : Int := lex (Lib.compareInt (x.cell 2).toI (y.cell 2).toI) (lex (Lib.compareBytes (x.cell 1).toS (y.cell 1).toS) (lex (Lib.compareBytes (x.cell 0).toS (y.cell 0).toS) 0))
theorem d3p : a8m cE := a32 (a1j b3K fun x : D => (x.cell 2).toI) (a32 (a1j a6a fun x : D => (x.cell 1).toS) (a32 (a1j a6a fun x : D => (x.cell 0).toS) b0f))
theorem d9m {x y : D} (h : cE x y = 0) : nmD x = nmD y := by
 unfold cE lex at h
 refine a2Y _ _ ?_
 split at h
 ·split at h
  ·split at h <;> assumption
  ·omega
 ·omega
theorem f37 : a0f Tryz.prog 40 = true := by kernel_rfl
theorem f38 : a0f Tryz.prog 47 = true := by kernel_rfl
theorem b5o {l : List D} (hl : l.length ≤ 5000) (hp : l.Pairwise fun x y => nmD x ≠ nmD y) : a9Q l = true ∧ (a1c l).Perm l ∧ (a1c l).Pairwise fun x y => leO cR x y = true := by
 have hb : Nat.blt l.length 4611686018427387904 = true := Nat.ble_eq_true_of_le (by omega)
 have e : d1j Tryz.prog 40 a9i = cR := by
  funext x y
  simp only [d1j, a9i, elD, f37]
  rfl
 unfold a9Q a1c
 refine ⟨?_, c1c l, ?_⟩
 ·rw [hb, Bool.and_true, b0h]
  intro a ha b hb h0
  rw [e] at h0
  exact a7D hp (fun x y h => c8T h) a ha b hb h0
 ·have := b0S (P := Tryz.prog) (e := 40) (os := a9i) l
  rw [e] at this
  exact this
theorem b81 {l : List D} (hl : l.length ≤ 5000) (hp : l.Pairwise fun x y => nmD x ≠ nmD y) : a4n l = true ∧ (a3v l).Perm l ∧ (a3v l).Pairwise fun x y => leO cE x y = true := by
 have hb : Nat.blt l.length 4611686018427387904 = true := Nat.ble_eq_true_of_le (by omega)
 have e : d1j Tryz.prog 47 a2P = cE := by
  funext x y
  simp only [d1j, a2P, elD, f38]
  rfl
 unfold a4n a3v
 refine ⟨?_, c1c l, ?_⟩
 ·rw [hb, Bool.and_true, b0h]
  intro a ha b hb h0
  rw [e] at h0
  exact a7D hp (fun x y h => d9m h) a ha b hb h0
 ·have := b0S (P := Tryz.prog) (e := 47) (os := a2P) l
  rw [e] at this
  exact this
theorem f2y (hN : maxLen < N) {l : List D} (hl : l.length ≤ 5000) (hx : ∀ x ∈ l, c6E x = x) (hp : l.Pairwise fun x y => nmD x ≠ nmD y) : ∃ nl, d2B N l = some (nl, a1c l) := by
 have hm : maxLen = 9223372036854775807 := rfl
 have h : ∃ nl, c2i N l (l.length : Int) 0 true [] = some (nl, l) := by
  have := a1Q (A := Int × Bool × List D) (S := fun a kr => a9P N l (l.length : Int) a.1 a.2.1 a.2.2 (fun x y z => kr (x, y, z)) _) (L := fun f a => b6o N l (l.length : Int) f a.1 a.2.1 a.2.2 (fun p => some p)) (fun f a => rfl)
   (fun a X => ∃ nl, X = some (nl, a.2.2 ++ l.drop a.1.toNat)) (fun a => 0 ≤ a.1 ∧ a.1 ≤ l.length ∧ a.2.2.length = a.1.toNat) (fun a => (l.length - a.1).toNat) (fun ⟨w, f, o⟩ kr ⟨h0, h1, h2⟩ ih => by
    simp only at h0 h1 h2 ⊢
    by_cases hw : w < l.length
    ·have hd := a2y (.i 0 : D) h0 hw
     have e := hx _ (a0R h0 hw)
     have hg : a8Q N ((l.getD w.toNat (.i 0)).cell 0).toS ((l.getD w.toNat (.i 0)).cell 1).toI ((l.getD w.toNat (.i 0)).cell 2).toI ((l.getD w.toNat (.i 0)).cell 3).toI ((l.getD w.toNat (.i 0)).cell 4).toI ((l.getD w.toNat (.i 0)).cell 5).toI ((l.getD w.toNat (.i 0)).cell 6).toI ((l.getD w.toNat (.i 0)).cell 7).isNil ((l.getD w.toNat (.i 0)).cell 7).items o = some (o ++ [l.getD w.toNat (.i 0)]) := by
      unfold a8Q a8P
      rw [d9i (by omega)]
      simp only [_root_.cond_true, a0o]
      unfold c6E at e
      rw [e]
     simp only [a9P, decide_eq_true hw, _root_.cond_true, a1x h0 hw, a0o]
     rw [hg, a2i (by omega) (by omega)]
     simp only [Option.isSome_some, _root_.cond_true, getD_some]
     obtain ⟨nl, hk⟩ := ih (w + 1, false, o ++ [l.getD w.toNat (.i 0)]) ⟨by simp only; omega, by simp only; omega, by simp only [List.length_append, List.length_singleton]; omega⟩ (by simp only; omega)
     refine ⟨nl, hk.trans ?_⟩
     simp only
     rw [hd]
     simp
    ·refine ⟨f, ?_⟩
     rw [a1y hw]
     simp [a9P, hw]) N (0, true, []) ⟨by simp, by simp only; omega, by simp⟩ (by simp only; omega)
  simpa [c2i] using this
 obtain ⟨nl, h⟩ := h
 obtain ⟨s1, _, _⟩ := b5o hl hp
 unfold d2B d2A c96 c0t c93 c0s a3m a1o c90 c0r
 rw [h]
 simp only [a0o, Option.isSome_some, _root_.cond_true, getD_some]
 rw [s1]
 exact ⟨nl, rfl⟩
def e2T (b x : D) : D := .a [.s (nmD b), .s (nmD x), .i (x.cell 2).toI]
noncomputable def erB (N : Nat) (rows : List D) (b : D) : Option D := goP (hbD N b) (fvF (b.cell 2).toI) (b.cell 1).toI (b.cell 3).toI 0 (-1) rows
noncomputable def c6J (N : Nat) (rows : List D) (l : List D) : List D := l.filterMap fun b => (erB N rows b).map (e2T b)
structure e7S (N : Nat) (rows l : List D) : Prop where
 len : l.length ≤ 50
 prog : ∀ b ∈ l, d2J N (b.cell 1).toI (b.cell 2).toI (b.cell 3).toI (b.cell 4).toI (b.cell 5).toI (b.cell 6).toI (b.cell 7).toI (b.cell 8).toS (b.cell 9).isNil (b.cell 9).items rows = some (e8c (erB N rows b))
 ref : ∀ b ∈ l, d3c N (b.cell 1).toI (b.cell 2).toI (b.cell 3).toI (b.cell 4).toI (b.cell 5).toI (b.cell 6).toI (b.cell 7).toI (b.cell 8).toS (b.cell 9).isNil (b.cell 9).items rows = some (e8c (erB N rows b))
theorem e4r {n : Nat} (h : n ≤ 50) : (decide ((n + 1) * 40 ≤ b5p) && decide ((n + 1) ≤ a0Q)) = true := by
 have h1 : b5p = 140737488355328 := rfl
 have h2 : a0Q = 9223372036854775807 := rfl
 rw [Bool.and_eq_true, decide_eq_true_eq, decide_eq_true_eq]; omega
theorem d9n {n : Nat} (h : n ≤ 200) : (decide (n * 40 ≤ b5p) && decide (n ≤ a0Q)) = true := by
 have h1 : b5p = 140737488355328 := rfl
 have h2 : a0Q = 9223372036854775807 := rfl
 rw [Bool.and_eq_true, decide_eq_true_eq, decide_eq_true_eq]; omega
theorem b82 (rows : List D) (b : D) (l : List D) : c6J N rows (b :: l) = (match erB N rows b with | some x => [e2T b x] | none => []) ++ c6J N rows l := by
 unfold c6J
 rw [List.filterMap_cons]
 cases erB N rows b <;> rfl
theorem e2U (hN : maxLen < N) {rows l : List D} (h : e7S N rows l) : ∃ nl, c3i N rows l (l.length : Int) 0 true [] = some (nl, c6J N rows l) := by
 have hm : maxLen = 9223372036854775807 := rfl
 have hl := h.len
 have := a1Q (A := Int × Bool × List D) (S := fun a kr => a9W N rows l (l.length : Int) a.1 a.2.1 a.2.2 (fun x y z => kr (x, y, z)) _) (L := fun f a => b6B N rows l (l.length : Int) f a.1 a.2.1 a.2.2 (fun p => some p)) (fun f a => rfl)
  (fun a X => ∃ nl, X = some (nl, a.2.2 ++ c6J N rows (l.drop a.1.toNat))) (fun a => 0 ≤ a.1 ∧ a.1 ≤ l.length ∧ a.2.2.length ≤ a.1.toNat) (fun a => (l.length - a.1).toNat) (fun ⟨w, f, o⟩ kr ⟨h0, h1, h2⟩ ih => by
   simp only at h0 h1 h2 ⊢
   by_cases hw : w < l.length
   ·have hd := a2y (.i 0 : D) h0 hw
    have e := h.prog _ (a0R h0 hw)
    simp only [a9W, decide_eq_true hw, _root_.cond_true, a1x h0 hw, a0o]
    rw [e, a2i (by omega) (by omega), hd, b82]
    simp only [Option.isSome_some, _root_.cond_true, getD_some]
    unfold b6A b2Z
    cases erB N rows (l.getD w.toNat (.i 0)) with
    | none =>
     obtain ⟨nl, hk⟩ := ih (w + 1, f, o) ⟨by simp only; omega, by simp only; omega, by simp only; omega⟩ (by simp only; omega)
     refine ⟨nl, hk.trans ?_⟩
     simp
    | some x =>
     simp only [e8c, _root_.cond_true]
     rw [e4r (by omega)]
     simp only [_root_.cond_true, c1N, c1O]
     obtain ⟨nl, hk⟩ := ih (w + 1, false, o ++ [e2T (l.getD w.toNat (.i 0)) x]) ⟨by simp only; omega, by simp only; omega, by simp only [List.length_append, List.length_singleton]; omega⟩ (by simp only; omega)
     refine ⟨nl, hk.trans ?_⟩
     simp
   ·refine ⟨f, ?_⟩
    rw [a1y hw]
    simp [a9W, hw, c6J]) N (0, true, []) ⟨by simp, by simp only; omega, by simp⟩ (by simp only; omega)
 simpa [c3i] using this
theorem f2z (e y : D) : d8z N (e.cell 0).toS (e.cell 1).toS (e.cell 2).toI (y.cell 0).toS (y.cell 1).toS (y.cell 2).toI = decide (cE e y < 0) := by
 unfold d8z d8y
 rw [Bool.eq_iff_iff, decide_eq_true_eq]
 have h1 := a5h (e.cell 1).toS (y.cell 1).toS
 have h0 := a5h (e.cell 0).toS (y.cell 0).toS
 have z1 := a2Y (e.cell 1).toS (y.cell 1).toS
 have z2 : (e.cell 1).toS = (y.cell 1).toS → Lib.compareBytes (e.cell 1).toS (y.cell 1).toS = 0 := fun h => by
  rw [h]
  have := a4Q (y.cell 1).toS (y.cell 1).toS
  omega
 have hz : Lib.compareBytes (e.cell 1).toS (y.cell 1).toS = 0 ↔ (e.cell 1).toS = (y.cell 1).toS := ⟨z1, z2⟩
 unfold cE
 generalize Lib.compareBytes (e.cell 1).toS (y.cell 1).toS = c1 at *
 generalize Lib.compareBytes (e.cell 0).toS (y.cell 0).toS = c0 at *
 generalize Op.bytesLess (e.cell 1).toS (y.cell 1).toS = b1 at *
 generalize Op.bytesLess (e.cell 0).toS (y.cell 0).toS = b0 at *
 generalize (e.cell 2).toI = a at *
 generalize (y.cell 2).toI = b at *
 simp only [a0o, lex, Lib.compareInt]
 by_cases p : a < b
 ·have p2 : ¬ a = b := by omega
  simp [p, p2]
 ·by_cases q : a > b
  ·have p2 : ¬ a = b := by omega
   simp [p, q, p2]
  ·have p2 : a = b := by omega
   subst p2
   by_cases r : (e.cell 1).toS = (y.cell 1).toS
   ·have r0 := hz.2 r
    subst r0
    rw [r]
    cases b1 with
    | true => simp at h1
    | false =>
     by_cases s : c0 = 0
     ·subst s
      cases b0 <;> simp at h0 ⊢
     ·simp [s, h0]
   ·have r0 : ¬ c1 = 0 := fun h => r (hz.1 h)
    cases b1 <;> simp [r, r0] at h1 ⊢ <;> omega
theorem e2V (hN : maxLen < N) {out : List D} (hl : out.length ≤ 50) (hp : out.Pairwise fun x y => leO cE x y = true) (e : D) (he : ∃ s t i, e = .a [.s s, .s t, .i i]) :
  ∃ w : Nat, c3O N out (e.cell 0).toS (e.cell 1).toS (e.cell 2).toI (out.length : Int) = some (w : Int) ∧ w ≤ out.length ∧ (∀ y ∈ out.take w, leO cE y e = true) ∧ ∀ y ∈ out.drop w, leO cE e y = true := by
 have hm : maxLen = 9223372036854775807 := rfl
 have := a1Q (A := Int) (S := fun a kr => b3E N out (e.cell 0).toS (e.cell 1).toS (e.cell 2).toI a kr _) (L := fun f a => b68 N out (e.cell 0).toS (e.cell 1).toS (e.cell 2).toI f a (fun p => some p)) (fun f a => rfl)
  (fun a X => ∃ w : Nat, X = some (w : Int) ∧ w ≤ out.length ∧ (∀ y ∈ out.take w, leO cE y e = true) ∧ ∀ y ∈ out.drop w, leO cE e y = true) (fun a => 0 ≤ a ∧ a ≤ out.length ∧ ∀ y ∈ out.drop a.toNat, leO cE e y = true) (fun a => a.toNat) (fun w kr ⟨h0, h1, h2⟩ ih => by
   simp only [b3E, a0o]
   unfold b67 b3D
   by_cases hw : w > 0
   ·have hlt : (w - 1).toNat < out.length := by omega
    rw [decide_eq_true hw, a2i (by omega) (by omega), a1x (i := w - 1) (by omega) (by omega), decide_eq_true hlt]
    simp only [a0o, _root_.cond_true, Option.isSome_some, getD_some, f2z]
    have hd := a2y (.i 0 : D) (xs := out) (w := w - 1) (by omega) (by omega)
    have ht := b4w (l := out) (w := w - 1) (by omega) (by omega)
    have ew : w - 1 + 1 = w := by omega
    rw [ew] at hd ht
    by_cases hc : cE e (out.getD (w - 1).toNat (.i 0)) < 0
    ·rw [decide_eq_true hc]
     refine ih (w - 1) ⟨by omega, by omega, fun y hy => ?_⟩ (by omega)
     rw [hd] at hy
     rcases List.mem_cons.1 hy with hy | hy
     ·rw [hy, b1y d3p]; omega
     ·exact h2 y hy
    ·rw [decide_eq_false hc]
     refine ⟨w.toNat, by simp only [_root_.cond_false]; congr 1; omega, by omega, fun y hy => ?_, h2⟩
     have hlast : leO cE (out.getD (w - 1).toNat (.i 0)) e = true := by
      rw [b1y d3p]
      have := d3p.sym e (out.getD (w - 1).toNat (.i 0))
      have := d3p.sym (out.getD (w - 1).toNat (.i 0)) e
      omega
     rw [ht] at hy
     have hp' : (out.take w.toNat).Pairwise fun x y => leO cE x y = true := hp.sublist (List.take_sublist ..)
     rw [ht, List.pairwise_append] at hp'
     rcases List.mem_append.1 hy with hy | hy
     ·exact b80 d3p _ _ _ (hp'.2.2 y hy _ (by simp)) hlast
     ·simp only [List.mem_singleton] at hy
      rw [hy]; exact hlast
   ·have hz : w = 0 := by omega
    subst hz
    rw [decide_eq_false (by omega)]
    refine ⟨0, rfl, by omega, by simp, ?_⟩
    simpa using h2) N (out.length : Int) ⟨by omega, by omega, by simp⟩ (by omega)
 exact this
theorem e7T (hN : maxLen < N) {rows l : List D} (h : e7S N rows l) : ∃ nl r, d1d N rows l (l.length : Int) 0 true [] = some (nl, r) ∧ r.Perm (c6J N rows l) ∧ r.Pairwise fun x y => leO cE x y = true := by
 have hm : maxLen = 9223372036854775807 := rfl
 have hl := h.len
 have := a1Q (A := Int × Bool × List D) (S := fun a kr => b0c N rows l (l.length : Int) a.1 a.2.1 a.2.2 (fun x y z => kr (x, y, z)) _) (L := fun f a => b7a N rows l (l.length : Int) f a.1 a.2.1 a.2.2 (fun p => some p)) (fun f a => rfl)
  (fun a X => ∃ nl r, X = some (nl, r) ∧ r.Perm (a.2.2 ++ c6J N rows (l.drop a.1.toNat)) ∧ r.Pairwise fun x y => leO cE x y = true) (fun a => 0 ≤ a.1 ∧ a.1 ≤ l.length ∧ a.2.2.length ≤ a.1.toNat ∧ a.2.2.Pairwise fun x y => leO cE x y = true) (fun a => (l.length - a.1).toNat) (fun ⟨w, f, o⟩ kr ⟨h0, h1, h2, h3⟩ ih => by
   simp only at h0 h1 h2 h3 ⊢
   by_cases hw : w < l.length
   ·have hd := a2y (.i 0 : D) h0 hw
    have e := h.ref _ (a0R h0 hw)
    simp only [b0c, decide_eq_true hw, _root_.cond_true, a1x h0 hw, a0o]
    rw [e, a2i (by omega) (by omega), hd, b82]
    simp only [Option.isSome_some, _root_.cond_true, getD_some]
    cases erB N rows (l.getD w.toNat (.i 0)) with
    | none =>
     obtain ⟨nl, r, hk, hq, hs⟩ := ih (w + 1, f, o) ⟨by simp only; omega, by simp only; omega, by simp only; omega, h3⟩ (by simp only; omega)
     exact ⟨nl, r, hk, by simpa using hq, hs⟩
    | some x =>
     obtain ⟨at', p1, p2, p3, p4⟩ := e2V hN (out := o) (by omega) h3 (e2T (l.getD w.toNat (.i 0)) x) ⟨_, _, _, rfl⟩
     have p1 : c3O N o ((l.getD w.toNat (.i 0)).cell 0).toS (x.cell 0).toS (x.cell 2).toI (o.length : Int) = some (at' : Int) := p1
     simp only [e8c, Bool.not_true, _root_.cond_false]
     simp only [p1]
     have q1 : decide (0 ≤ (at' : Int)) = true := decide_eq_true (by omega)
     have q2 : decide ((at' : Int) ≤ (o.length : Int)) = true := decide_eq_true (by omega)
     have q3 : decide ((o.length : Int) ≤ (o.length : Int)) = true := decide_eq_true (by omega)
     have s1 : (o.take at').length = at' := by rw [List.length_take]; omega
     have s2 : (o.drop at').length = o.length - at' := List.length_drop ..
     simp only [Option.isSome_some, _root_.cond_true, getD_some, q1, q2, q3, Int.toNat_natCast, List.drop_zero, Bool.and_true, List.take_length, Nat.zero_add]
     have r1 := d9n (n := (o.take at').length) (by omega)
     have r2 := e4r (n := (o.take at').length) (by omega)
     have r3 := d9n (n := (o.take at' ++ [D.a [D.s ((l.getD w.toNat (.i 0)).cell 0).toS, D.s (x.cell 0).toS, D.i (x.cell 2).toI]]).length + (o.drop at').length) (by simp only [List.length_append, List.length_singleton]; omega)
     simp only [r1, r2, r3, _root_.cond_true]
     have hpw : ((o.take at' ++ [e2T (l.getD w.toNat (.i 0)) x]) ++ o.drop at').Pairwise fun x y => leO cE x y = true := by
      have h3' := h3
      rw [← List.take_append_drop at' o, List.pairwise_append] at h3'
      rw [List.append_assoc, List.pairwise_append]
      refine ⟨h3'.1, ?_, fun a ha b hb => ?_⟩
      ·rw [List.singleton_append, List.pairwise_cons]
       exact ⟨p4, h3'.2.1⟩
      ·rw [List.singleton_append] at hb
       rcases List.mem_cons.1 hb with hb | hb
       ·rw [hb]; exact p3 a ha
       ·exact h3'.2.2 a ha b hb
     obtain ⟨nl, r, hk, hq, hs⟩ := ih (w + 1, _, (o.take at' ++ [e2T (l.getD w.toNat (.i 0)) x]) ++ o.drop at') ⟨by simp only; omega, by simp only; omega, by simp only [List.length_append, List.length_singleton]; omega, hpw⟩ (by simp only; omega)
     refine ⟨nl, r, hk, hq.trans ?_, hs⟩
     simp only
     have hperm : ((o.take at' ++ [e2T (l.getD w.toNat (.i 0)) x]) ++ o.drop at').Perm (o ++ [e2T (l.getD w.toNat (.i 0)) x]) := by
      rw [List.append_assoc]
      refine (List.perm_middle (l₁ := o.take at') (l₂ := o.drop at')).trans ?_
      rw [List.take_append_drop]
      exact (List.perm_append_singleton _ _).symm
     rw [← List.append_assoc]
     exact hperm.append_right _
   ·refine ⟨f, o, ?_, ?_, h3⟩
    ·simp [b0c, hw]
    ·rw [a1y hw]
     simp [c6J]) N (0, true, []) ⟨by simp, by simp only; omega, by simp, by simp⟩ (by simp only; omega)
 obtain ⟨nl, r, a, b, c⟩ := this
 exact ⟨nl, r, a, by simpa using b, c⟩
theorem b4z {rows : List D} : ∀ {l : List D}, (l.Pairwise fun x y => nmD x ≠ nmD y) → (c6J N rows l).Pairwise fun x y => nmD x ≠ nmD y
 | [], _ => .nil
 | b :: l, h => by
  rw [List.pairwise_cons] at h
  rw [b82]
  cases erB N rows b with
  | none => exact b4z h.2
  | some x =>
   show (e2T b x :: c6J N rows l).Pairwise _
   rw [List.pairwise_cons]
   refine ⟨fun y hy => ?_, b4z h.2⟩
   unfold c6J at hy
   rw [List.mem_filterMap] at hy
   obtain ⟨c, hc, hy⟩ := hy
   cases hz : erB N rows c with
   | none => rw [hz] at hy; cases hy
   | some z =>
    rw [hz] at hy
    simp only [Option.map_some, Option.some.injEq] at hy
    subst hy
    exact h.1 c hc
theorem d1t (rows l : List D) : (c6J N rows l).length ≤ l.length := List.length_filterMap_le ..
end Go.Proofs.YtfkkcdapcgimlaaGreatDoor

namespace Go.Proofs.YtfkkcdapcgimlaaGreatDoor
open Go Go.AM Go.Sort
set_option maxRecDepth 100000
set_option maxHeartbeats 4000000
variable {N : Nat}
theorem e2W {x : D} (h : e2P x = 0) : 0 ≤ (x.cell 2).toI ∧ (x.cell 2).toI ≤ 86399999999 := by
 unfold e2P e4m at h
 cases h1 : a9j (x.cell 0).toS with
 | false => rw [h1] at h; cases h
 | true =>
 rw [h1] at h
 cases h2 : inI (x.cell 1).toI 1 5 with
 | false => rw [h2] at h; cases h
 | true =>
 rw [h2] at h
 cases h3 : inI (x.cell 2).toI 0 86399999999 with
 | false => rw [h3] at h; cases h
 | true => unfold inI at h3; simpa using h3
theorem e7U (hN : maxLen < N) {bs l : List D} {f : Bool} (hb : ∀ b ∈ bs, b1x b) (hr : ∀ x ∈ l, c6A x) (hx : ∀ x ∈ l, c6E x = x) (h1 : c32 N bs) (h2 : d9h l) :
  (∃ nl, d2B N l = some (nl, a1c l)) ∧ (∃ nl, c3D N N f l = some (nl, a1c l)) ∧ e7S N (a1c l) bs := by
 have hm : maxLen = 9223372036854775807 := rfl
 have hlen := h2.len
 obtain ⟨s1, s2, s3⟩ := b5o h2.len h2.apart
 obtain ⟨nl, r, r1, r2, r3⟩ := b4x hN N f l (by omega) h2.len hx h2.apart
 have hap := a7D h2.apart (c := cR) (fun x y h => c8T h)
 have e : r = a1c l := c1b e2Q r2 s2 r3 s3 hap
 rw [e] at r1
 have hsl : (a1c l).length ≤ maxLen := by rw [s2.length_eq]; omega
 refine ⟨f2y hN h2.len hx h2.apart, ⟨nl, r1⟩, ⟨h1.len, fun b hb' => ?_, fun b hb' => ?_⟩⟩
 ·have hk := h1.each b hb'
  exact d9k hN hsl (fun x hx' => (c6F hN (hb b hb') hk (hr x (s2.mem_iff.1 hx')) (h2.each x (s2.mem_iff.1 hx'))).1) (hk.field.elim (fun h => .inr h.2) (fun h => .inl h.2))
 ·have hk := h1.each b hb'
  rw [e7R hN hsl (fun x hx' => (c6F hN (hb b hb') hk (hr x (s2.mem_iff.1 hx')) (h2.each x (s2.mem_iff.1 hx'))).2)]
  unfold erB
  have hk4 := hk.kind
  have hr4 : f36 (b.cell 1).toI 0 (-1) 0 0 0 (-2) := by
   have := hk.kind
   unfold inI at this
   simp at this
   unfold f36
   omega
  rw [d9l hk.kind hk.field (a1c l) 0 (-1) 0 0 0 (-2) (fun x hx' => e2W (h2.each x (s2.mem_iff.1 hx'))) hr4]
theorem c8U (hN : maxLen < N) {bs l : List D} {f : Bool} (hb : ∀ b ∈ bs, b1x b) (hr : ∀ x ∈ l, c6A x) (hx : ∀ x ∈ l, c6E x = x) (h1 : c32 N bs) (h2 : d9h l) :
  ∃ nl nl' r, d61 N bs l = some (nl, r) ∧ d8H N bs f l = some (nl', r) ∧ r.Perm (c6J N (a1c l) bs) := by
 have hm : maxLen = 9223372036854775807 := rfl
 obtain ⟨⟨n1, e1⟩, ⟨n2, e2⟩, hk⟩ := e7U hN (f := f) hb hr hx h1 h2
 obtain ⟨n3, e3⟩ := e2U hN hk
 obtain ⟨n4, r, e4, p4, o4⟩ := e7T hN hk
 have hnm := b4z (N := N) (rows := a1c l) h1.apart
 have hl := d1t (N := N) (a1c l) bs
 have hbl := h1.len
 obtain ⟨s1, s2, s3⟩ := b81 (l := c6J N (a1c l) bs) (by omega) hnm
 have hap := a7D hnm (c := cE) (fun x y h => d9m h)
 have e : r = a3v (c6J N (a1c l) bs) := c1b d3p p4 s2 o4 s3 hap
 refine ⟨n3, n4, r, ?_, ?_, p4⟩
 ·unfold d61 d2L
  rw [e1]
  simp only [a0o, Option.isSome_some, _root_.cond_true, getD_some]
  rw [e3]
  simp only [Option.isSome_some, _root_.cond_true, getD_some]
  rw [s1, e]
  rfl
 ·unfold d8H d3f
  rw [e2]
  simp only [a0o, Option.isSome_some, _root_.cond_true, getD_some]
  rw [e4]
  rfl
end Go.Proofs.YtfkkcdapcgimlaaGreatDoor

namespace Go.Proofs.YtfkkcdapcgimlaaGreatDoor
open Go Go.AM Go.Sort
set_option maxRecDepth 100000
set_option maxHeartbeats 4000000
variable {N : Nat}
theorem e2X (hN : maxLen < N) {l : List D} (hl : l.length ≤ maxLen) : d8P N l l = some true := by
 have h : c3Q N l l (l.length : Int) 0 = some (.inr ()) := by
  unfold c3Q
  refine (a7G (.i 0 : D) (S := fun w kr => b0d N l l (l.length : Int) w kr _ _) (L := fun m w => b7c N l l (l.length : Int) m w _ _) (fun m w => rfl) (fun _ r => some (.inr ())) hl ?_ ?_ hN).trans rfl
  ·intro kr; simp [b0d]
  ·intro w kr h0 h1 hw hi hk
   simp [b0d, h1, hi, hw, hk, a0o]
 unfold d8P d3h
 rw [h]
 simp [a0o, a0T, a0l]
theorem f4s (hN : maxLen < N) {bs l : List D} {f : Bool} (hbl : bs.length ≤ maxLen) (hll : l.length ≤ maxLen) (hb : ∀ b ∈ bs, b1x b) (hr : ∀ x ∈ l, c6A x) (hx : ∀ x ∈ l, c6E x = x) : f13 N bs f l = some true := by
 have hm : maxLen = 9223372036854775807 := rfl
 obtain ⟨e1, a1, a2, a3⟩ := c6B hN hbl hb
 obtain ⟨e2, b1, b2, b3⟩ := d3o hN hll hr
 have hmain : ∃ nl nl' r e, d64 N bs l = some (nl, r, e) ∧ d8K N bs f l = some (nl', r, e) ∧ r.length ≤ maxLen := by
  unfold d64 d2M d8K d3g
  rw [a1, a2, b1, b2]
  simp only [a0o, Option.isSome_some, _root_.cond_true, getD_some]
  rw [e2L (by omega)]
  simp only [Option.isSome_some, _root_.cond_true, getD_some]
  cases h1 : e1 != 0 with
  | true => simp only [_root_.cond_true, h1]; exact ⟨_, _, _, _, rfl, rfl, by simp⟩
  | false =>
   simp only [_root_.cond_false]
   cases h2 : e2 != 0 with
   | true => exact ⟨_, _, _, _, rfl, rfl, by simp⟩
   | false =>
    have h1 : e1 = 0 := by simpa using h1
    have h2 : e2 = 0 := by simpa using h2
    obtain ⟨nl, nl', r, r1, r2, r3⟩ := c8U hN (f := f) hb hr hx (a3 h1) (b3 h2)
    simp only [_root_.cond_false]
    rw [r1, r2]
    refine ⟨_, _, _, _, rfl, rfl, ?_⟩
    have := d1t (N := N) (a1c l) bs
    have := (a3 h1).len
    show r.length ≤ maxLen
    rw [r3.length_eq]
    omega
 obtain ⟨nl, nl', r, e, m1, m2, m3⟩ := hmain
 have hloop : c8K N bs (bs.length : Int) 0 = some (.inr ()) := by
  unfold c8K
  refine (e7M (S := fun w kr => b4v N bs (bs.length : Int) w kr _ _) (L := fun m w => c3R N bs (bs.length : Int) m w _ _) (fun m w => rfl) (fun _ r => some (.inr ())) hbl ?_ ?_ hN).trans rfl
  ·intro kr; simp [b4v]
  ·intro w kr x r hx' h0 h1 hw hi hg hd hk
   obtain ⟨c, c1, c2, _⟩ := c1a hN (hb x hx')
   simp only [b4v, decide_eq_true h1, _root_.cond_true, hi, hw, hg, a0o]
   rw [c1, c2]
   simp [hk]
 unfold f13 e79
 rw [m1, m2]
 simp only [a0o, Option.isSome_some, _root_.cond_true, getD_some]
 rw [hloop]
 simp only [a9z, a9A, _root_.cond_true, _root_.cond_false, Option.isSome_some]
 unfold c3T b8X
 rw [e2X hN m3]
 simp [a0o]
end Go.Proofs.YtfkkcdapcgimlaaGreatDoor

namespace Go.Proofs.YtfkkcdapcgimlaaGreatDoor
open Go Go.AM
set_option maxRecDepth 100000
set_option maxHeartbeats 4000000
theorem e2Y : kinds Tryz.prog 40 = [.str, .int .i64, .int .i64, .int .i64, .int .i64, .int .i64, .int .i64, .sl 9] := by kernel_rfl
theorem e7V : kinds Tryz.prog 52 = [.str, .int .i64, .int .i64, .int .i64, .int .i64, .int .i64, .int .i64, .int .i64, .str, .sl 24] := by kernel_rfl
theorem e7W : kinds Tryz.prog 42 = [.sl 52] := by kernel_rfl
theorem e7X : kinds Tryz.prog 28 = [.sl 40] := by kernel_rfl
theorem f39 : a0f Tryz.prog 52 = true := by kernel_rfl
theorem f2A : a0f Tryz.prog 40 = true := by kernel_rfl
theorem f2B : kinds Tryz.prog 9 = [.str] := by kernel_rfl
theorem f4t : a0f Tryz.prog 9 = false := by kernel_rfl
theorem e8d {m : Nat} {k : IntKind} {d : D} (h : TyK Tryz.prog m (.int k) d) : ∃ i, d = .i i := by
 cases m with
 | zero => exact h.elim
 | succ m => obtain ⟨i, h1, _⟩ := h; exact ⟨i, h1⟩
theorem f2U {m : Nat} {d : D} (h : TyK Tryz.prog m .str d) : ∃ s, d = .s s ∧ s.length ≤ maxLen := by
 cases m with
 | zero => exact h.elim
 | succ m => exact h
theorem sl1 {m : Nat} {e : TypeId} {d : D} (h : TyK Tryz.prog m (.sl e) d) : ∃ nl xs, d = .l nl xs ∧ xs.length ≤ maxLen ∧ ∀ x ∈ xs, ∃ m', c7g Tryz.prog (TyK Tryz.prog m') e x := by
 cases m with
 | zero => exact h.elim
 | succ m => obtain ⟨nl, xs, h1, _, h2, h3⟩ := h; exact ⟨nl, xs, h1, h2, fun x hx => ⟨m, h3 x hx⟩⟩
theorem f4a {m : Nat} {x : D} (h : c7g Tryz.prog (TyK Tryz.prog m) 9 x) : x.toS.length ≤ maxLen := by
 unfold c7g at h
 rw [if_neg (by rw [f4t]; simp)] at h
 obtain ⟨k, h1, h2⟩ := h
 rw [f2B] at h1
 simp only [List.cons.injEq, and_true] at h1
 subst h1
 obtain ⟨s, rfl, hs⟩ := f2U h2
 exact hs
theorem f2C {m : Nat} {cs : List D} (h : a0v (TyK Tryz.prog m) (kinds Tryz.prog 40) cs) : c6A (.a cs) ∧ c6E (.a cs) = .a cs := by
 rw [e2Y] at h
 obtain ⟨_, _, rfl, g0, h⟩ := a0U h
 obtain ⟨_, _, rfl, g1, h⟩ := a0U h
 obtain ⟨_, _, rfl, g2, h⟩ := a0U h
 obtain ⟨_, _, rfl, g3, h⟩ := a0U h
 obtain ⟨_, _, rfl, g4, h⟩ := a0U h
 obtain ⟨_, _, rfl, g5, h⟩ := a0U h
 obtain ⟨_, _, rfl, g6, h⟩ := a0U h
 obtain ⟨_, _, rfl, g7, h⟩ := a0U h
 obtain rfl := b5Y h
 obtain ⟨s, rfl, hs⟩ := f2U g0
 obtain ⟨a, rfl⟩ := e8d g1
 obtain ⟨b, rfl⟩ := e8d g2
 obtain ⟨c, rfl⟩ := e8d g3
 obtain ⟨d, rfl⟩ := e8d g4
 obtain ⟨e, rfl⟩ := e8d g5
 obtain ⟨f, rfl⟩ := e8d g6
 obtain ⟨nl, xs, rfl, hl, hx⟩ := sl1 g7
 refine ⟨⟨hs, hl, fun j => ?_⟩, rfl⟩
 show ((xs.getD j (.i 0)).toS).length ≤ maxLen
 by_cases hj : j < xs.length
 ·obtain ⟨m', hm⟩ := hx (xs.getD j (.i 0)) (by rw [List.getD_eq_getElem?_getD, List.getElem?_eq_getElem hj]; exact List.getElem_mem hj)
  exact f4a hm
 ·rw [List.getD_eq_getElem?_getD, List.getElem?_eq_none (by omega)]
  exact Nat.zero_le _
theorem f2D {m : Nat} {e : TypeId} {nl : Bool} {xs : List D} (h : TyK Tryz.prog m (.sl e) (.l nl xs)) : nl = true → xs = [] := by
 cases m with
 | zero => exact h.elim
 | succ m => obtain ⟨nl', xs', h1, h2, _⟩ := h; cases h1; exact h2
theorem e7Y {m : Nat} {ds : List D} (h : c1M Tryz.prog m 28 ds) : ∃ nl xs, ds = [.l nl xs] ∧ xs.length ≤ maxLen ∧ (∀ x ∈ xs, c6A x) ∧ (∀ x ∈ xs, c6E x = x) ∧ (nl = true → xs = []) := by
 unfold c1M at h
 rw [e7X] at h
 obtain ⟨_, _, rfl, g0, h⟩ := a0U h
 obtain rfl := b5Y h
 have g0' := g0
 obtain ⟨nl, xs, rfl, hl, hx⟩ := sl1 g0
 have e : ∀ x ∈ xs, c6A x ∧ c6E x = x := fun x hx' => by
  obtain ⟨m', hm⟩ := hx x hx'
  unfold c7g at hm
  rw [if_pos f2A] at hm
  obtain ⟨cs, rfl, hm⟩ := hm
  exact f2C hm
 exact ⟨nl, xs, rfl, hl, fun x hx' => (e x hx').1, fun x hx' => (e x hx').2, f2D g0'⟩
theorem d9o {m : Nat} {ds : List D} (h : c1M Tryz.prog m 42 ds) (hsz : a2X ds ≤ 1048576) : ∃ nl xs, ds = [.l nl xs] ∧ xs.length ≤ maxLen ∧ ∀ x ∈ xs, b1x x := by
 unfold c1M at h
 rw [e7W] at h
 obtain ⟨_, _, rfl, g0, h⟩ := a0U h
 obtain rfl := b5Y h
 obtain ⟨nl, xs, rfl, hl, hx⟩ := sl1 g0
 refine ⟨nl, xs, rfl, hl, fun x hx' => ?_⟩
 obtain ⟨m', hm⟩ := hx x hx'
 unfold c7g at hm
 rw [if_pos f39] at hm
 obtain ⟨cs, rfl, hm⟩ := hm
 have hk := a7Y (.a cs) 9
 have hs := a5g hx'
 simp only [a2X, szD] at hsz
 have h := hm
 rw [e7V] at h
 obtain ⟨_, _, rfl, g0, h⟩ := a0U h
 obtain ⟨_, _, rfl, g1, h⟩ := a0U h
 obtain ⟨_, _, rfl, g2, h⟩ := a0U h
 obtain ⟨_, _, rfl, g3, h⟩ := a0U h
 obtain ⟨_, _, rfl, g4, h⟩ := a0U h
 obtain ⟨_, _, rfl, g5, h⟩ := a0U h
 obtain ⟨_, _, rfl, g6, h⟩ := a0U h
 obtain ⟨_, _, rfl, g7, h⟩ := a0U h
 obtain ⟨_, _, rfl, g8, h⟩ := a0U h
 obtain ⟨_, _, rfl, g9, h⟩ := a0U h
 obtain rfl := b5Y h
 obtain ⟨s, rfl, hs0⟩ := f2U g0
 obtain ⟨t, rfl, hs8⟩ := f2U g8
 exact ⟨hs0, hs8, by omega⟩
theorem e7Z (m : Nat) (dss : List (List D)) (h : a0v (c1M Tryz.prog m) Tryz.f6.params.toList dss) (hsz : (dss.map a2X).sum ≤ 1048576) : a1u Tryz.prog 6 (d92 Tryz.prog Tryz.f6.params.toList dss) [] ([.c (.b true)], []) := by
 have hp : Tryz.f6.params.toList = [42, 28] := by kernel_rfl
 rw [hp] at h ⊢
 match dss, h with
 | [d0, d1], ⟨h0, h1, _⟩ =>
  obtain ⟨nl0, b0, rfl, l0, B0⟩ := d9o h0 (by simp only [List.map_cons, List.sum_cons] at hsz; omega)
  obtain ⟨nl1, b1, rfl, l1, R1, X1, Z1⟩ := e7Y h1
  have m1 : b1.length ≤ 1048576 := by
   have := b0i b1
   simp only [List.map_cons, List.sum_cons, a2X, szD] at hsz
   omega
  refine f17 18446744073709551616 _ _ (f2Q 18446744073709551616 [.b nl0, .l b0, .b nl1, .l b1]) (by kernel_rfl) _ ?_
  have e : f2Q 18446744073709551616 [.b nl0, .l b0, .b nl1, .l b1] = bnd (f13 18446744073709551616 b0 nl1 b1) fun q => [(q.isSome, ([.c (.b (q.getD default))], []))] := by kernel_rfl
  rw [e, f4s (by decide) l0 l1 B0 R1 X1]
  rfl
theorem Tryz.own : ownKnob Tryz.prog.godebug = none := by kernel_rfl
theorem Tryz.laidOut : laidOutB Tryz.prog = true := by kernel_rfl
theorem f2E {H : Type} : c07 (Rows.uptoBulk : DataW H → Nat) Rows.uptoBulkAll := by
 refine ⟨fun l => ?_, fun l => ?_, ?_, fun e s => ?_, fun p => ?_, ?_, fun d r => ?_⟩
 ·cases l <;> simp [Rows.uptoBulk]
 ·simp [Rows.uptoBulk]
 ·simp [Rows.uptoBulk]
 ·simp only [Rows.uptoBulk]; omega
 ·simp [Rows.uptoBulk]
 ·simp [Rows.uptoBulkAll]
 ·simp [Rows.uptoBulkAll]
theorem g0 : Tryz.prog.globalNamed "internal/bytealg.MaxLen" = some 0 := by kernel_rfl
theorem g1 : Tryz.prog.globalNamed "internal/strconv.uint64pow10" = some 1 := by kernel_rfl
theorem g2 : Tryz.prog.globalNamed "strconv.ErrSyntax" = some 2 := by kernel_rfl
theorem g3 : Tryz.prog.globalNamed "strconv.ErrRange" = some 3 := by kernel_rfl
theorem giW {W : World} (hs : W.ShapedOpen Tryz.prog) (hl : laidMetH Tryz.prog Rows.askBadgesMatchSpecUptoRow.laid W) {M : a0E} (hM : ∀ b o, ¬ M b o) : GI Tryz.prog M W := by
 have hl : laidMet Tryz.prog Rows.askBadgesMatchSpecUptoRow.laid W := hl
 refine f3v g0 g1 g2 g3 ?_ ?_ ?_ ?_ hM
 ·exact e7E (t := 3) (zero := #[.int .i64 0]) hs (of_decide_eq_true (by kernel_rfl)) (by kernel_rfl) rfl (by kernel_rfl) (by kernel_rfl) (by kernel_rfl)
 ·obtain ⟨ps, hv, _⟩ := hl
  obtain ⟨g, t, cs, fuel, p, q1, q2, q3, q4⟩ := c3W (x := ("internal/strconv.uint64pow10", Rows.laid_internal_strconv_uint64pow10)) hv (by simp [Rows.askBadgesMatchSpecUptoRow])
  obtain rfl := Option.some.inj ((show (Tryz.prog.globals[1]?).map (·.type) = some 272 by kernel_rfl).symm.trans (by rw [Option.some.inj (g1.symm.trans q1)]; exact q2))
  have hcs := Lib.cells_of_tab (k := .u64) (zs := (List.range 20).map fun i => ((10 ^ i : Nat) : Int)) (n := 20) (e := 159) (t := 272) (by kernel_rfl) (by kernel_rfl) (by kernel_rfl) (by kernel_rfl) (show DataW.trod _ _ _ _ _ _ fuel 272 cs.toList = some (Lib.tabData .u64 ((List.range 20).map fun i => ((10 ^ i : Nat) : Int)), p) from q4)
  refine e7F (k := .u64) (zs := (List.range 20).map fun i => ((10 ^ i : Nat) : Int)) g1 (show W.var? Tryz.prog _ = _ by rw [q3, ← hcs]) (by simp) fun i p z h1 h2 => ?_
  rw [List.getElem?_map] at h1 h2
  obtain ⟨j, j1, rfl⟩ := Option.map_eq_some_iff.1 h1
  rw [j1] at h2
  simp only [Option.map_some, Option.some.injEq] at h2
  subst h2
  rfl
 ·exact d8Y (t := 199) hl (show ("strconv.ErrSyntax", Rows.laid_strconv_ErrSyntax) ∈ Rows.askBadgesMatchSpecUptoRow.laid by simp [Rows.askBadgesMatchSpecUptoRow]) g2 (by kernel_rfl) (by kernel_rfl)
 ·exact d8Y (t := 199) hl (show ("strconv.ErrRange", Rows.laid_strconv_ErrRange) ∈ Rows.askBadgesMatchSpecUptoRow.laid by simp [Rows.askBadgesMatchSpecUptoRow]) g3 (by kernel_rfl) (by kernel_rfl)
abbrev f4u : ByteArray := { data := #[105, 110, 118, 97, 108, 105, 100, 32, 115, 121, 110, 116, 97, 120] }
abbrev f4v : ByteArray := { data := #[118, 97, 108, 117, 101, 32, 111, 117, 116, 32, 111, 102, 32, 114, 97, 110, 103, 101] }
noncomputable def low : Nat := (World.holding Tryz.prog default ⟨#[], #[], []⟩).heap.size
def e70 {H : Type} : DataW H → Array Value
 | .agg l => (l.map fun | .lit (.int k n) => Value.int k n | _ => undef).toArray
 | _ => #[]
def f2F (h : Array Obj) (g : Nat) (vs : Array Value) : Array Obj := h.modify g fun
 | .cells _ t fr => .cells vs t fr
 | o => o
noncomputable def b83 (os : Os) : World :=
 let w0 := World.holding Tryz.prog os ⟨#[.cells #[.string f4u] 292, .cells #[.string f4v] 292], #[], []⟩
 { w0 with heap := f2F (f2F (f2F (f2F (f2F w0.heap 1 (e70 (H := Unit) Rows.laid_internal_strconv_uint64pow10)) 2 #[.iface 290 (.pointer (some ⟨low, 0, none⟩))]) 3 #[.iface 290 (.pointer (some ⟨low + 1, 0, none⟩))])
   4 (e70 (H := Unit) Rows.laid_math_bits_deBruijn32tab)) 5 (e70 (H := Unit) Rows.laid_math_bits_deBruijn64tab) }
def f2V : Value := .slice none 0 0
def f2W : Value := .slice none 0 0
def f4w {H : Type} : DataW H := .nil
def f4x {H : Type} : DataW H := .nil
theorem e2Z (os : Os) : laidMet Tryz.prog Rows.askBadgesMatchSpecUptoRow.laid ((b83 os).forCall (fun _ _ => 0) ⟨#[], #[f2V, f2W], []⟩).memory :=
 laidMet_of_run' 8 (by kernel_rfl) (by kernel_rfl)
theorem reads (os : Os) {H : Type} (enc : TypeId × Value → H) : ∃ places, DataW.whole enc Tryz.prog ((b83 os).forCall (fun _ _ => 0) ⟨#[], #[f2V, f2W], []⟩).memory Tryz.f6.params.toList Rows.askBadgesMatchSpecSpec.vars false #[f2V, f2W].toList 8 = some ([f4w, f4x], [], places) :=
 ⟨[], by kernel_rfl⟩
theorem d3q (os : Os) (started : os.Started) (H : Type) (enc : TypeId × Value → H) (F : Stop.Interp) :
  ReturnsInHanded {} Tryz.checked os 6 .any ((Rows.OpenSpec.upto Rows.askBadgesMatchSpecSpec).preRow enc Tryz.prog Tryz.f6 Rows.askBadgesMatchSpecUptoRow.domain false Rows.askBadgesMatchSpecUptoRow.laid) (((Rows.OpenSpec.upto Rows.askBadgesMatchSpecSpec).at F).post enc Tryz.prog Tryz.f6 false true false false) := by
 obtain ⟨places, hx⟩ := reads os enc
 refine returnsInHanded_of_row (C := Tryz.checked) (s := Rows.OpenSpec.upto Rows.askBadgesMatchSpecSpec) Tryz.own started (by kernel_rfl) Tryz.func6
  (witness_row_at (enc := enc) (C := Tryz.checked) false (b83 os) #[f2V, f2W] rfl (by kernel_rfl) (by kernel_rfl) (by kernel_rfl)
   (OpenSpec.preRow_of_cond 8 hx (by kernel_rfl) (fun k hk => by cases hk; kernel_rfl) (by kernel_rfl) (e2Z os))) ?_
 intro W base args ds gs before hval hW _ hcond _ hL hsh _
 have hgs : gs = [] := by
  obtain ⟨_, _, _, hv, _⟩ := hW
  cases gs with
  | nil => rfl
  | cons => exact hv.elim
 have hb := of_decide_eq_true (hcond _ rfl)
 rw [hgs, List.append_nil] at hb
 exact d8X (tb := 4) f2E [24, 9, 52, 40, 42, 28] (by kernel_rfl) Tryz.laidOut rfl (by kernel_rfl) (by kernel_rfl) (by kernel_rfl) (fun l hl => by
  rw [show Tryz.f6.params.size = 2 by kernel_rfl] at hl
  match l, hl with
  | [_, _], _ => rfl) (fun m dss h hs => e7Z m dss h (Nat.le_trans hs hb)) (fun hM => giW hsh hL hM) hval hW
end Go.Proofs.YtfkkcdapcgimlaaGreatDoor

