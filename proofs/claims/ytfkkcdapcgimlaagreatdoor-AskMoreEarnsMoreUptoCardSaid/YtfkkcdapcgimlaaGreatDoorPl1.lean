/- A part of a proof of a law: lemmas. Conditions: those of each lemma. -/
import Derived.Test.YtfkkcdapcgimlaaGreatDoorBPp2
import Derived.KernelRfl
import Derived.KernelRfl
import Derived.Test.YtfkkcdapcgimlaaGreatDoorCards
import Derived.Test.YtfkkcdapcgimlaaGreatDoorTie
import Derived.Deep.DeepHandedRow
import Derived.ProofKit
set_option linter.all false
set_option maxRecDepth 100000
namespace Go.Proofs.YtfkkcdapcgimlaaGreatDoor
open Go Go.AM
set_option maxRecDepth 100000
set_option maxHeartbeats 4000000
variable {N : Nat}
def ltr (n : Int) : Bool := decide (97 ≤ n ∧ n ≤ 122 ∨ 65 ≤ n ∧ n ≤ 90 ∨ 48 ≤ n ∧ n ≤ 57 ∨ n = 45 ∨ n = 95 ∨ n = 46)
def a8H (s : List UInt8) : Bool := s.all (fun c => ltr (c.toNat : Int)) && decide (1 ≤ s.length ∧ s.length ≤ 60)
def prB (s : List UInt8) : Bool := s.all (fun c => decide (32 ≤ (c.toNat : Int) ∧ (c.toNat : Int) ≤ 126))
def inI (n a b : Int) : Bool := decide (a ≤ n ∧ n ≤ b)
theorem a8g (n a b : Int) : a6r N n a b = inI n a b := by
 unfold a6r d2P inI
 rw [Bool.eq_iff_iff]; simp
theorem d9U (n a b : Int) : c5w N n a b = inI n a b := by
 unfold c5w c0H inI
 rw [Bool.eq_iff_iff]; simp
theorem a8h (n a b : Int) : a9x N n a b = !inI n a b := by
 unfold a9x d3t inI
 rw [Bool.eq_iff_iff]; simp <;> omega
theorem d11 (n : Int) : d2T N n = inI n 1 7 := by
 unfold d2T d2S
 rw [a0s, a8g]
theorem c4p (n : Int) : c8P N n = inI n 1 7 := by
 unfold c8P d3w inI
 rw [Bool.eq_iff_iff]; simp
theorem d12 (c : UInt8) : IntKind.wrap .i64 (c.toNat : Int) = c.toNat := a1g (by omega) (by have := c.toNat_lt; omega)
theorem b7A (hN : maxLen < N) {s : List UInt8} (hs : s.length ≤ maxLen) : c6y N s = some (a8H s) := by
 have h : c8N N s 0 = some (bif s.all (fun c => ltr (c.toNat : Int)) then .inr () else .inl ()) := by
  unfold c8N
  refine (a88 (0 : UInt8) (S := fun w kr => b4N N s w kr _ _) (L := fun m w => c3I N s m w _ _) (fun m w => rfl) (fun _ l => some (bif l.all (fun c => ltr (c.toNat : Int)) then .inr () else .inl ())) hs ?_ ?_ hN).trans rfl
  ·intro kr; simp [b4N]
  ·intro w kr h0 h1 hw hi hk
   simp only [b4N, decide_eq_true h1, f5W, hi, a0s, hw, hk, List.all_cons]
   generalize ((s.getD w.toNat 0).toNat : Int) = n
   refine (c0D (c' := !ltr n) ?_).trans ?_
   ·rw [Bool.eq_iff_iff]; simp [ltr]; omega
   ·cases ltr n <;> rfl
 unfold c6y d3s
 rw [h]
 unfold a8H
 cases s.all (fun c => ltr (c.toNat : Int)) with
 | false => rfl
 | true =>
  simp only [a0s, a9V, a9W, f5W, f5X, f52, Bool.true_and]
  congr 1
  rw [Bool.eq_iff_iff]; simp; omega
theorem b7B (hN : maxLen < N) {s : List UInt8} (hs : s.length ≤ maxLen) : c5v N s = some (a8H s) := by
 have h : c7Q N s s.length 0 = some (bif s.all (fun c => ltr (c.toNat : Int)) then .inr () else .inl ()) := by
  unfold c7Q
  refine (a88 (0 : UInt8) (S := fun w kr => b4u N s s.length w kr _ _) (L := fun m w => c2f N s s.length m w _ _) (fun m w => rfl) (fun _ l => some (bif l.all (fun c => ltr (c.toNat : Int)) then .inr () else .inl ())) hs ?_ ?_ hN).trans rfl
  ·intro kr; simp [b4u]
  ·intro w kr h0 h1 hw hi hk
   simp only [b4u, decide_eq_true h1, f5W, hi, a0s, hw, hk, List.all_cons, b6n, a9X, e0Y, d2K]
   generalize ((s.getD w.toNat 0).toNat : Int) = n
   refine (c0D (c' := !ltr n) ?_).trans ?_
   ·rw [Bool.eq_iff_iff]; simp [ltr]; omega
   ·cases ltr n <;> rfl
 unfold c5v d2O
 rw [h]
 unfold a8H
 cases s.all (fun c => ltr (c.toNat : Int)) with
 | false => rfl
 | true =>
  simp only [a0s, a9V, a9W, f5W, f5X, f52, Bool.true_and]
  congr 1
  rw [Bool.eq_iff_iff]; simp; omega
def d9V (s : List UInt8) : Bool := prB s && decide (1 ≤ s.length ∧ s.length ≤ 60)
theorem e3C (hN : maxLen < N) {s : List UInt8} (hs : s.length ≤ maxLen) : d5I N s = some (d9V s) := by
 have h : c2k N s s.length 0 = some (bif prB s then .inr () else .inl ()) := by
  unfold c2k
  refine (a88 (0 : UInt8) (S := fun w kr => a9Y N s s.length w kr _ _) (L := fun m w => b6q N s s.length m w _ _) (fun m w => rfl) (fun _ l => some (bif prB l then .inr () else .inl ())) hs ?_ ?_ hN).trans rfl
  ·intro kr; simp [a9Y, prB]
  ·intro w kr h0 h1 hw hi hk
   simp only [a9Y, decide_eq_true h1, f5W, hi, a0s, hw, hk, prB, List.all_cons, d12, d9U, inI]
   cases decide (32 ≤ ((s.getD w.toNat 0).toNat : Int) ∧ ((s.getD w.toNat 0).toNat : Int) ≤ 126) <;> rfl
 have h2 : c5y N s = some (prB s && decide (s.length ≤ 60)) := by
  unfold c5y c0I
  rw [h]
  cases prB s with
  | false => rfl
  | true =>
   simp only [a0s, a9V, a9W, f5W, f5X, f52, Bool.true_and]
   congr 1
   rw [Bool.eq_iff_iff]; simp; omega
 unfold d5I d2V c2l b4w
 rw [h2]
 unfold d9V
 cases s with
 | nil => simp [a0s, prB]
 | cons c r =>
  have : ((c :: r) == ([] : List UInt8)) = false := rfl
  rw [this]
  simp only [a0s, Bool.not_false, f5W, f52, getD_some]
  congr 1
  rw [Bool.eq_iff_iff]; simp
theorem c9j (hN : maxLen < N) {s : List UInt8} (hs : s.length ≤ maxLen) : c3O N s 0 = some (bif prB s then .inr () else .inl ()) := by
 unfold c3O
 refine (a88 (0 : UInt8) (S := fun w kr => b0j N s w kr _ _) (L := fun m w => b61 N s m w _ _) (fun m w => rfl) (fun _ l => some (bif prB l then .inr () else .inl ())) hs ?_ ?_ hN).trans rfl
 ·intro kr; simp [b0j, prB]
 ·intro w kr h0 h1 hw hi hk
  simp only [b0j, decide_eq_true h1, f5W, hi, a0s, hw, hk, prB, List.all_cons, d12, a8h, inI]
  cases decide (32 ≤ ((s.getD w.toNat 0).toNat : Int) ∧ ((s.getD w.toNat 0).toNat : Int) ≤ 126) <;> rfl
end Go.Proofs.YtfkkcdapcgimlaaGreatDoor

namespace Go.Proofs.YtfkkcdapcgimlaaGreatDoor
open Go Go.AM
set_option maxRecDepth 100000
set_option maxHeartbeats 4000000
variable {N : Nat}
def a9F (e : Int → Int) : Int → List D → Int
 | _, [] => 0
 | w, _ :: r => bif e w != 0 then e w else a9F e (w + 1) r
def c4q (n : Int) : Sum Int Unit := bif n != 0 then .inl n else .inr ()
theorem c65 {e : Int → Int} {w : Int} {x : D} {l : List D} : c4q (a9F e w (x :: l)) = bif e w != 0 then .inl (e w) else c4q (a9F e (w + 1) l) := by
 simp only [a9F]
 cases h : e w != 0 with
 | true => simp only [f5W, c4q, h]
 | false => rfl
def leB (a b : List UInt8) : Bool := Op.bytesLess a b || a == b
def tgE (xs : List D) (w : Int) : Int := bif !a8H (xs.getD w.toNat (.i 0)).toS then 8 else bif (bif decide (w > 0) then leB (xs.getD w.toNat (.i 0)).toS (xs.getD (w - 1).toNat (.i 0)).toS else false) then 10 else 0
section
variable {xs : List D} {w : Int}
theorem f3L (h0 : 0 ≤ w) (h1 : w < xs.length) (hl : xs.length ≤ maxLen) : IntKind.wrap .i64 (w - 1) = w - 1 ∧ (bif (inB (w - 1) xs.length) then true else (!((decide (w > 0)) == true))) = true := by
 have hm : maxLen = 9223372036854775807 := rfl
 refine ⟨a1g (by omega) (by omega), ?_⟩
 by_cases hw : w = 0
 ·subst hw
  cases inB ((0 : Int) - 1) xs.length <;> rfl
 ·rw [a1u (by omega) (by omega)]; rfl
theorem c9k (hN : maxLen < N) (hl : xs.length ≤ maxLen) (hx : ∀ j : Nat, ((xs.getD j (.i 0)).toS).length ≤ maxLen) : c2A N xs xs.length xs 0 = some (c4q (a9F (tgE xs) 0 xs)) := by
 unfold c2A
 refine (a88 (.i 0 : D) (S := fun w kr => a98 N xs xs.length xs w kr _ _) (L := fun m w => b6G N xs xs.length xs m w _ _) (fun m w => rfl) (fun w l => some (c4q (a9F (tgE xs) w l))) hl ?_ ?_ hN).trans rfl
 ·intro kr; simp [a98, a9F, c4q]
 ·intro w kr h0 h1 hw hi hk
  obtain ⟨e1, e2⟩ := f3L h0 h1 hl
  simp only [a98, decide_eq_true h1, f5W, hi, a0s, hw, hk, b7B hN (hx w.toNat), f52, getD_some, c65, e1, e2]
  unfold tgE leB
  cases a8H (xs.getD w.toNat (.i 0)).toS with
  | false => rfl
  | true => cases (bif decide (w > 0) then (Op.bytesLess (xs.getD w.toNat (.i 0)).toS (xs.getD (w - 1).toNat (.i 0)).toS || (xs.getD w.toNat (.i 0)).toS == (xs.getD (w - 1).toNat (.i 0)).toS) else false) <;> rfl
theorem c9l (hN : maxLen < N) (hl : xs.length ≤ maxLen) (hx : ∀ j : Nat, ((xs.getD j (.i 0)).toS).length ≤ maxLen) : c3W N xs xs.length xs 0 = some (c4q (a9F (tgE xs) 0 xs)) := by
 unfold c3W
 refine (a88 (.i 0 : D) (S := fun w kr => b0q N xs xs.length xs w kr _ _) (L := fun m w => b7c N xs xs.length xs m w _ _) (fun m w => rfl) (fun w l => some (c4q (a9F (tgE xs) w l))) hl ?_ ?_ hN).trans rfl
 ·intro kr; simp [b0q, a9F, c4q]
 ·intro w kr h0 h1 hw hi hk
  obtain ⟨e1, e2⟩ := f3L h0 h1 hl
  simp only [b0q, decide_eq_true h1, f5W, hi, a0s, hw, hk, b7A hN (hx w.toNat), f52, getD_some, c65, e1, e2]
  unfold tgE leB
  cases a8H (xs.getD w.toNat (.i 0)).toS with
  | false => rfl
  | true => cases (bif decide (w > 0) then (Op.bytesLess (xs.getD w.toNat (.i 0)).toS (xs.getD (w - 1).toNat (.i 0)).toS || (xs.getD w.toNat (.i 0)).toS == (xs.getD (w - 1).toNat (.i 0)).toS) else false) <;> rfl
end
theorem c9m (hN : 4 < N) (a b c d : Int) : c2z N 4 [(.i a), (.i b), (.i c), (.i d)] 0 = some (bif inI a 0 10000000000000 && inI b 0 10000000000000 && inI c 0 10000000000000 && inI d 0 10000000000000 then .inr () else .inl ()) := by
 obtain ⟨M, rfl⟩ : ∃ M, N = M + 5 := ⟨N - 5, by omega⟩
 have w1 : IntKind.wrap .i64 (0 + 1) = 1 := a1g (by omega) (by omega)
 have w2 : IntKind.wrap .i64 (1 + 1) = 2 := a1g (by omega) (by omega)
 have w3 : IntKind.wrap .i64 (2 + 1) = 3 := a1g (by omega) (by omega)
 have w4 : IntKind.wrap .i64 (3 + 1) = 4 := a1g (by omega) (by omega)
 have e : ∀ K, b2C K (R := Sum Unit Unit) 4 [(.i a), (.i b), (.i c), (.i d)] (M + 5) 0 (fun p => some (.inl p)) (fun p => some (.inr p)) = some (bif inI a 0 10000000000000 && inI b 0 10000000000000 && inI c 0 10000000000000 && inI d 0 10000000000000 then .inr () else .inl ()) := by
  intro K
  have w1' := w1
  have w2' := w2
  have w3' := w3
  have w4' := w4
  simp at w1' w2' w3' w4'
  simp [b2C, b6E, a8g, a0s, D.toI, inB, w1', w2', w3', w4']
  cases inI a 0 10000000000000 <;> cases inI b 0 10000000000000 <;> cases inI c 0 10000000000000 <;> cases inI d 0 10000000000000 <;> rfl
 unfold c2z
 exact e _
def e3D (v0 : List UInt8) (v1 v2 v3 v4 v5 v6 : Int) (v8 : List D) : Int :=
 bif !a8H v0 then 8 else bif !inI v1 1 5 then 7 else bif !(inI v2 0 86399999999 && (inI v3 0 10000000000000 && inI v4 0 10000000000000 && inI v5 0 10000000000000 && inI v6 0 10000000000000)) then 9 else bif decide ((v8.length : Int) > 20) then 3 else a9F (tgE v8) 0 v8
theorem b36 {n : Int} {k : Int → Option Int} {z : Option Int} : (bif a04 (some (c4q n)) then k (a0P (some (c4q n))) else bif (a0r (some (c4q n))).isSome then k 0 else z) = k n := by
 unfold c4q
 cases h : n != 0 with
 | true => rfl
 | false =>
  have : n = 0 := by simpa using h
  subst this; rfl
section
variable {v0 : List UInt8} {v1 v2 v3 v4 v5 v6 : Int} {v8 : List D}
theorem e3E (hN : maxLen < N) (h0 : v0.length ≤ maxLen) (hl : v8.length ≤ maxLen) (hx : ∀ j : Nat, ((v8.getD j (.i 0)).toS).length ≤ maxLen) : d6o N v0 v1 v2 v3 v4 v5 v6 v8 = some (e3D v0 v1 v2 v3 v4 v5 v6 v8) := by
 have hm : maxLen = 9223372036854775807 := rfl
 unfold d6o d6n e3D
 rw [b7B hN h0, c9m (by omega), c9k hN hl hx]
 simp only [a0s, f52, f5W, getD_some, a8g]
 cases a8H v0 with
 | false => rfl
 | true =>
 cases inI v1 1 5 with
 | false => rfl
 | true =>
 cases inI v2 0 86399999999 with
 | false => rfl
 | true =>
 cases (inI v3 0 10000000000000 && inI v4 0 10000000000000 && inI v5 0 10000000000000 && inI v6 0 10000000000000) with
 | false => rfl
 | true =>
 cases decide ((v8.length : Int) > 20) with
 | true => rfl
 | false => exact b36
theorem c9n : b3F N v2 v3 v4 v5 v6 = !(inI v2 0 86399999999 && (inI v3 0 10000000000000 && inI v4 0 10000000000000 && inI v5 0 10000000000000 && inI v6 0 10000000000000)) := by
 unfold b3F b3E
 simp only [a0s, a8h]
 cases inI v2 0 86399999999 <;> cases inI v3 0 10000000000000 <;> cases inI v4 0 10000000000000 <;> cases inI v5 0 10000000000000 <;> cases inI v6 0 10000000000000 <;> rfl
theorem e3F (hN : maxLen < N) (h0 : v0.length ≤ maxLen) (hl : v8.length ≤ maxLen) (hx : ∀ j : Nat, ((v8.getD j (.i 0)).toS).length ≤ maxLen) : d8E N v0 v1 v2 v3 v4 v5 v6 v8 = some (e3D v0 v1 v2 v3 v4 v5 v6 v8) := by
 unfold d8E d8D e3D
 rw [b7A hN h0, c9l hN hl hx, c9n]
 simp only [a0s, f52, f5W, getD_some, a8h]
 cases a8H v0 with
 | false => rfl
 | true =>
 cases inI v1 1 5 with
 | false => rfl
 | true =>
 cases (inI v2 0 86399999999 && (inI v3 0 10000000000000 && inI v4 0 10000000000000 && inI v5 0 10000000000000 && inI v6 0 10000000000000)) with
 | false => rfl
 | true =>
 cases decide ((v8.length : Int) > 20) with
 | true => rfl
 | false => exact b36
end
theorem e3G (hN : 2 < N) (a b : Int) : d6y N [(.i a), (.i b)] = some (bif a != 0 then a else b) := by
 obtain ⟨M, rfl⟩ : ∃ M, N = M + 3 := ⟨N - 3, by omega⟩
 unfold d6y d3b d6w
 have w1 : IntKind.wrap .i64 (0 + 1) = 1 := a1g (by omega) (by omega)
 have w2 : IntKind.wrap .i64 (1 + 1) = 2 := a1g (by omega) (by omega)
 have e : ∀ K, b8I K (R := Sum Int Unit) 0 [(.i a), (.i b)] (([(.i a), (.i b)] : List D).length : Int) (M + 3) 0 (fun p => some (.inl p)) (fun p => some (.inr p)) = some (bif a != 0 then .inl a else bif b != 0 then .inl b else .inr ()) := by
  intro K
  have w1' := w1
  have w2' := w2
  simp at w1' w2'
  simp [b8I, c2E, D.toI, inB, w1', w2']
  cases a != 0 <;> cases b != 0 <;> rfl
 rw [e]
 simp only [a0s]
 cases ha : a != 0 with
 | true => rfl
 | false =>
  cases hb : b != 0 with
  | true => rfl
  | false =>
   have : b = 0 := by simpa using hb
   subst this; rfl
end Go.Proofs.YtfkkcdapcgimlaaGreatDoor

namespace Go.Proofs.YtfkkcdapcgimlaaGreatDoor
open Go Go.AM
set_option maxRecDepth 100000
set_option maxHeartbeats 4000000
variable {N : Nat}
theorem c9o (x : D) : 1 ≤ szD x := by
 cases x <;> simp [szD]
theorem a5v : ∀ {l : List D} {x : D}, x ∈ l → szD x ≤ a3k l
 | y :: l, x, h => by
  simp only [a3k]
  rcases f59.1 h with rfl | h
  ·omega
  ·have := a5v h; omega
theorem b0D : ∀ l : List D, l.length ≤ a3k l
 | [] => Nat.zero_le _
 | x :: l => by have := b0D l; have := c9o x; simp only [a3k, List.length_cons]; omega
theorem d13 (x : D) (j : Nat) : x.cell j = .i 0 ∨ szD (x.cell j) < szD x := by
 cases x with
 | a cs =>
  simp only [D.cell, szD]
  by_cases hj : j < cs.length
  ·right
   have : cs.getD j (.i 0) ∈ cs := by rw [f51, f58 hj]; exact List.getElem_mem hj
   have := a5v this
   omega
  ·left; rw [f51, List.getElem?_eq_none (by omega)]; rfl
 | _ => left; rfl
theorem a8i (x : D) (j : Nat) : a3k (x.cell j).items < szD x := by
 have h1 := c9o x
 rcases d13 x j with h | h
 ·rw [h]; exact h1
 ·cases hc : x.cell j with
  | l nl xs => rw [hc] at h; simp only [szD] at h; simp only [D.items]; omega
  | _ => exact h1
theorem d9W (x : D) (j : Nat) : (x.cell j).toS.length < szD x := by
 have h1 := c9o x
 rcases d13 x j with h | h
 ·rw [h]; exact h1
 ·cases hc : x.cell j with
  | s l => rw [hc] at h; simp only [szD] at h; simp only [D.toS]; omega
  | _ => exact h1
theorem a02 {l : List D} {w : Int} (h0 : 0 ≤ w) (h1 : w < l.length) : l.getD w.toNat (.i 0) ∈ l := by
 have hl : w.toNat < l.length := by omega
 rw [f51, f58 hl]; exact List.getElem_mem hl
theorem e8P {X : Type} {xs : List D} {S : Int → (Int → X) → X} {L : Nat → Int → X} (hL : ∀ m a, L (m + 1) a = S a (L m)) (spec : Int → List D → X) (hlen : xs.length ≤ maxLen)
  (hend : ∀ kr, S xs.length kr = spec xs.length [])
  (hstep : ∀ (w : Int) (kr : Int → X) (x : D) (r : List D), x ∈ xs → 0 ≤ w → w < xs.length → IntKind.wrap .i64 (w + 1) = w + 1 → inB w xs.length = true → xs.getD w.toNat (.i 0) = x → xs.drop (w + 1).toNat = r → kr (w + 1) = spec (w + 1) r → S w kr = spec w (x :: r))
  {N : Nat} (hN : maxLen < N) : L N 0 = spec 0 xs :=
 a88 (.i 0 : D) hL spec hlen hend (fun w kr h0 h1 h2 h3 h4 => hstep w kr _ _ (a02 h0 h1) h0 h1 h2 h3 rfl rfl h4) hN
theorem a1P {A X : Type} {S : A → (A → X) → X} {L : Nat → A → X} (hL : ∀ m a, L (m + 1) a = S a (L m)) (P : A → X → Prop) (Inv : A → Prop) (μ : A → Nat)
  (h : ∀ a kr, Inv a → (∀ a', Inv a' → μ a' < μ a → P a' (kr a')) → P a (S a kr)) : ∀ (m : Nat) (a : A), Inv a → μ a < m → P a (L m a) := by
 intro m
 induction m with
 | zero => intro a _ h; omega
 | succ m ih => intro a ha hm; rw [hL]; exact h a (L m) ha fun a' h1 h2 => ih a' h1 (by omega)
def cnt : Nat → List D → Nat
 | 0, _ => 1
 | m + 1, l => 1 + (l.map fun x => cnt m (x.cell 5).items).sum
theorem e5g {l : List D} {f : D → Nat} (h : ∀ x ∈ l, f x ≤ szD x) : (l.map f).sum ≤ a3k l := by
 induction l with
 | nil => simp [a3k]
 | cons x l ih =>
  have h1 := h x (by simp)
  have h2 := ih fun y hy => h y (by simp [hy])
  simp only [List.map_cons, List.sum_cons, a3k]
  omega
theorem e5h : ∀ (m : Nat) (l : List D), cnt m l ≤ a3k l + 1
 | 0, l => by simp [cnt]
 | m + 1, l => by
  have := e5g (l := l) (f := fun x => cnt m (x.cell 5).items) fun x _ => by
   have h1 := e5h m (x.cell 5).items
   have h2 := a8i x 5
   omega
  simp only [cnt]
  omega
theorem c1C : ∀ (m m' : Nat) (l : List D), a3k l < m → a3k l < m' → cnt m l = cnt m' l
 | 0, _, _, h, _ => by omega
 | _, 0, _, _, h => by omega
 | m + 1, m' + 1, l, h, h' => by
  simp only [cnt]
  congr 2
  refine List.map_congr_left fun x hx => ?_
  have h1 := a8i x 5
  have h2 := a5v hx
  exact c1C m m' _ (by omega) (by omega)
def cn (l : List D) : Nat := cnt (a3k l + 1) l
theorem f3M (l : List D) : 1 ≤ cn l := by unfold cn; simp only [cnt]; omega
theorem f5e (l : List D) : cn l ≤ a3k l + 1 := e5h _ _
theorem f3N (l : List D) : cn l = 1 + (l.map fun x => cn (x.cell 5).items).sum := by
 show 1 + _ = _
 congr 2
 refine List.map_congr_left fun x hx => ?_
 have h1 := a8i x 5
 have h2 := a5v hx
 exact c1C _ _ _ (by omega) (by omega)
abbrev cns (l : List D) : Nat := (l.map fun x => cn (x.cell 5).items).sum
theorem e5i (l : List D) : cns l ≤ a3k l := e5g fun x _ => by
 have h1 := f5e (x.cell 5).items
 have h2 := a8i x 5
 omega
theorem d9X (hN : maxLen < N) : ∀ (m : Nat) (v0 v1 v2 v3 : Int) (v4 : List UInt8) (v5 : Bool) (v6 : List D), a3k v6 < m → a3k v6 ≤ 2097152 → b9J N m v0 v1 v2 v3 v4 v5 v6 = some (cn v6 : Int)
 | 0, _, _, _, _, _, _, _, h, _ => by omega
 | m + 1, v0, v1, v2, v3, v4, v5, v6, h, hM => by
  have hm : maxLen = 9223372036854775807 := rfl
  have hlen := b0D v6
  have hall := e5i v6
  show d2R N (b9J N m) v0 v1 v2 v3 v4 v5 v6 = _
  unfold d2R d5z
  have e : c7R N (b9J N m) v6 (v6.length : Int) 1 0 = some (1 + (cns v6 : Int)) := by
   unfold c7R
   have := a3Z (A := Int × Int) (S := fun a kr => b4v N (b9J N m) v6 (v6.length : Int) a.1 a.2 (fun x y => kr (x, y)) (fun p => some p)) (L := fun f a => c2i N (b9J N m) v6 (v6.length : Int) f a.1 a.2 (fun p => some p)) (fun f a => rfl)
    (fun a => some (a.1 + (cns (v6.drop a.2.toNat) : Int))) (fun a => 0 ≤ a.2 ∧ a.2 ≤ v6.length ∧ 0 ≤ a.1 ∧ a.1 + (cns (v6.drop a.2.toNat) : Int) ≤ 2097153) (fun a => (v6.length - a.2).toNat) (fun ⟨a, w⟩ kr ⟨h0, h1, h2, h3⟩ ih => by
     simp only at h0 h1 h2 h3 ⊢
     by_cases hw : w < v6.length
     ·have hd := a2w (.i 0 : D) h0 hw
      rw [hd] at h3 ⊢
      simp only [cns, List.map_cons, List.sum_cons] at h3 ⊢
      have hx := a02 h0 hw
      have k1 := a8i (v6.getD w.toNat (.i 0)) 5
      have k2 := a5v hx
      simp only [b4v, decide_eq_true hw, f5W, a1u h0 hw, a0s]
      rw [d9X hN m _ _ _ _ _ _ _ (by omega) (by omega)]
      simp only [f52, f5W, getD_some]
      rw [a1g (by omega) (by omega), a1g (by omega) (by omega), ih (_, _) ⟨by simp only; omega, by simp only; omega, by simp only; omega, by simp only [cns]; omega⟩ (by simp only; omega)]
      simp only [cns]
      congr 1
      omega
     ·have : w = v6.length := by omega
      subst this
      simp only [b4v]
      rw [decide_eq_false hw, a1y hw]
      simp [cns]) N (1, 0) ⟨by simp, by simp, by simp, by simp only [Int.toNat_zero, List.drop_zero]; omega⟩ (by simp only; omega)
   simpa using this
  rw [e]
  simp only [a0s, f52, f5W, getD_some]
  rw [f3N]
  congr 1
theorem d9Y (hN : maxLen < N) : ∀ (m : Nat) (v0 v1 v2 v3 : Int) (v4 : List UInt8) (v5 : Bool) (v6 : List D) (v7 : Int), a3k v6 < m → a3k v6 ≤ 2097152 → 1 ≤ v7 → v7 ≤ 101 → b90 N m v0 v1 v2 v3 v4 v5 v6 v7 = some (min (cn v6 : Int) v7)
 | 0, _, _, _, _, _, _, _, _, h, _, _, _ => by omega
 | m + 1, v0, v1, v2, v3, v4, v5, v6, v7, h, hM, hv, hv' => by
  have hm : maxLen = 9223372036854775807 := rfl
  have hlen := b0D v6
  have hall := e5i v6
  show d3v N (b90 N m) v0 v1 v2 v3 v4 v5 v6 v7 = _
  unfold d3v d7X
  have e : ∃ z, c8O N (b90 N m) v7 v6 (v6.length : Int) 1 0 = some z ∧ (z = .inl () ∧ v7 ≤ 1 + (cns v6 : Int) ∨ z = .inr (min (1 + (cns v6 : Int)) v7)) := by
   unfold c8O
   have := a1P (A := Int × Int) (S := fun a kr => b4O N (b90 N m) v7 v6 (v6.length : Int) a.1 a.2 (fun x y => kr (x, y)) (fun p => some (Sum.inl p)) (fun p => some (Sum.inr p))) (L := fun f a => c3L N (b90 N m) v7 v6 (v6.length : Int) f a.1 a.2 (fun p => some (Sum.inl p)) (fun p => some (Sum.inr p))) (fun f a => rfl)
    (fun a X => ∃ z, X = some z ∧ (z = .inl () ∧ v7 ≤ a.1 + (cns (v6.drop a.2.toNat) : Int) ∨ z = .inr (min (a.1 + (cns (v6.drop a.2.toNat) : Int)) v7))) (fun a => 0 ≤ a.2 ∧ a.2 ≤ v6.length ∧ 1 ≤ a.1 ∧ a.1 ≤ v7) (fun a => (v6.length - a.2).toNat) (fun ⟨a, w⟩ kr ⟨h0, h1, h2, h3⟩ ih => by
     simp only at h0 h1 h2 h3 ⊢
     by_cases hw : w < v6.length
     ·have hd := a2w (.i 0 : D) h0 hw
      rw [hd]
      simp only [cns, List.map_cons, List.sum_cons]
      have hx := a02 h0 hw
      have k1 := a8i (v6.getD w.toNat (.i 0)) 5
      have k2 := a5v hx
      have k3 := f3M ((v6.getD w.toNat (.i 0)).cell 5).items
      simp only [b4O, decide_eq_true hw, f5W, a1u h0 hw, a0s]
      by_cases hge : a ≥ v7
      ·rw [decide_eq_true hge]
       exact ⟨_, rfl, .inl ⟨rfl, by omega⟩⟩
      ·rw [decide_eq_false hge]
       simp only [f5X]
       rw [a1g (by omega) (by omega), d9Y hN m _ _ _ _ _ _ _ _ (by omega) (by omega) (by omega) (by omega)]
       simp only [f52, f5W, getD_some]
       rw [a1g (by omega) (by omega), a1g (by omega) (by omega)]
       obtain ⟨z, z1, z2⟩ := ih (a + min (cn ((v6.getD w.toNat (.i 0)).cell 5).items : Int) (v7 - a), w + 1) ⟨by simp only; omega, by simp only; omega, by simp only; omega, by simp only; omega⟩ (by simp only; omega)
       refine ⟨z, z1, ?_⟩
       simp only [cns] at z2
       rcases z2 with ⟨z3, z4⟩ | z3
       ·exact .inl ⟨z3, by omega⟩
       ·refine .inr (z3.trans ?_)
        congr 1
        omega
     ·have : w = v6.length := by omega
      subst this
      simp only [b4O]
      rw [decide_eq_false hw, a1y hw]
      exact ⟨_, rfl, .inr (by simp [cns]; omega)⟩) N (1, 0) ⟨by simp, by simp, by simp, by simpa using hv⟩ (by simp only; omega)
   simpa using this
  obtain ⟨z, e1, e2⟩ := e
  rw [e1, f3N]
  simp only [a0s]
  rcases e2 with ⟨rfl, e3⟩ | rfl
  ·show some v7 = _
   congr 1
   have : (List.map (fun x => cn (x.cell 5).items) v6).sum = cns v6 := rfl
   push_cast
   omega
  ·show some _ = _
   congr 1
end Go.Proofs.YtfkkcdapcgimlaaGreatDoor

namespace Go.Proofs.YtfkkcdapcgimlaaGreatDoor
open Go Go.AM
set_option maxRecDepth 100000
set_option maxHeartbeats 4000000
variable {N : Nat}
def ndE (v0 v1 v2 v3 : Int) (v4 : List UInt8) (n : Nat) : Int :=
 bif !inI v0 1 7 then 7 else
 bif v0 == 4 && !inI v2 1 5 then 7 else
 bif v0 == 5 && !a8H v4 then 8 else
 bif v0 == 6 && !d9V v4 then 2 else
 bif v0 == 7 && !inI v1 1 7 then 7 else
 bif v0 == 7 && (!inI v2 (-1000000000000000) 1000000000000000 || !inI v3 (-1000000000000000) 1000000000000000 || decide (v2 > v3)) then 9 else
 bif (v0 != 7 && (v1 != 0 || v3 != 0)) || (v0 != 7 && v0 != 4 && v2 != 0) || (v0 != 5 && v0 != 6 && !(v4 == ([] : List UInt8))) || (decide (v0 > 3) && decide ((n : Int) > 0)) || (v0 == 3 && (n : Int) != 1) then 2 else 0
section
variable {v0 v1 v2 v3 : Int} {v4 : List UInt8} {v6 : List D}
theorem d14 (h : inI v0 1 7 = true) : v0 = 1 ∨ v0 = 2 ∨ v0 = 3 ∨ v0 = 4 ∨ v0 = 5 ∨ v0 = 6 ∨ v0 = 7 := by
 unfold inI at h
 simp at h
 omega
theorem c9p : b3q N v2 v3 = (!inI v2 (-1000000000000000) 1000000000000000 || !inI v3 (-1000000000000000) 1000000000000000 || decide (v2 > v3)) := by
 unfold b3q b0k
 simp only [a0s, a8h]
 cases inI v2 (-1000000000000000) 1000000000000000 <;> cases inI v3 (-1000000000000000) 1000000000000000 <;> rfl
theorem e3H (s : List UInt8) : (bif (decide ((s.length : Int) < 1)) then true else (decide ((s.length : Int) > 60))) = !decide (1 ≤ s.length ∧ s.length ≤ 60) := by
 by_cases h1 : (s.length : Int) < 1
 ·rw [decide_eq_true h1, decide_eq_false (show ¬ (1 ≤ s.length ∧ s.length ≤ 60) by omega)]; rfl
 ·by_cases h2 : (s.length : Int) > 60
  ·rw [decide_eq_false h1, decide_eq_true h2, decide_eq_false (show ¬ (1 ≤ s.length ∧ s.length ≤ 60) by omega)]; rfl
  ·rw [decide_eq_false h1, decide_eq_false h2, decide_eq_true (show (1 ≤ s.length ∧ s.length ≤ 60) by omega)]; rfl
theorem e3I (hN : maxLen < N) (h4 : v4.length ≤ maxLen) : d8a N v0 v1 v2 v3 v4 v6 = some (ndE v0 v1 v2 v3 v4 v6.length) := by
 unfold d8a d79 ndE
 rw [a8h]
 simp only [a0s]
 cases hk : inI v0 1 7 with
 | false => rfl
 | true =>
 unfold a8c a6i a8b a6h a8a a6g b63 b3r
 rw [b7A hN h4, c9j hN h4]
 simp only [a0s, a8h, c4p, c9p, e3H, f52, getD_some, f5W]
 rcases d14 hk with rfl | rfl | rfl | rfl | rfl | rfl | rfl
 ·simp [a04, a0r, a0P]
  cases v1 != 0 <;> cases v2 != 0 <;> cases v3 != 0 <;> cases v4.isEmpty <;> rfl
 ·simp [a04, a0r, a0P]
  cases v1 != 0 <;> cases v2 != 0 <;> cases v3 != 0 <;> cases v4.isEmpty <;> rfl
 ·simp [a04, a0r, a0P]
  cases v1 != 0 <;> cases v2 != 0 <;> cases v3 != 0 <;> cases v4.isEmpty <;> cases (v6.length : Int) != 1 <;> rfl
 ·cases inI v2 1 5 <;> simp [a04, a0r, a0P]
  cases v1 != 0 <;> cases v3 != 0 <;> cases v4.isEmpty <;> cases decide (0 < v6.length) <;> rfl
 ·cases a8H v4 <;> simp [a04, a0r, a0P]
  cases v1 != 0 <;> cases v2 != 0 <;> cases v3 != 0 <;> cases decide (0 < v6.length) <;> rfl
 ·unfold d9V
  cases prB v4 <;> cases decide (1 ≤ v4.length ∧ v4.length ≤ 60) <;> simp [a04, a0r, a0P]
  cases v1 != 0 <;> cases v2 != 0 <;> cases v3 != 0 <;> cases decide (0 < v6.length) <;> rfl
 ·cases inI v1 1 7 <;> cases inI v2 (-1000000000000000) 1000000000000000 <;> cases inI v3 (-1000000000000000) 1000000000000000 <;> cases decide (v2 > v3) <;> simp [a04, a0r, a0P]
  cases v4.isEmpty <;> cases decide (0 < v6.length) <;> rfl
theorem d9Z (hN : maxLen < N) (h4 : v4.length ≤ maxLen) {rc : a0u} {v5 : Bool} {v7 : Int} : c72 N rc v0 v1 v2 v3 v4 v5 v6 v7 =
  bif ndE v0 v1 v2 v3 v4 v6.length != 0 then some (ndE v0 v1 v2 v3 v4 v6.length) else bif decide (v7 > 20) then some 3 else
   bif a04 (a7Z N rc v7 v6 (v6.length : Int) 0) then some (a0P (a7Z N rc v7 v6 (v6.length : Int) 0)) else bif (a0r (a7Z N rc v7 v6 (v6.length : Int) 0)).isSome then some 0 else none := by
 unfold c72 d5V ndE
 simp only [a0s, a8g]
 generalize a7Z N rc v7 v6 (v6.length : Int) 0 = g
 cases hk : inI v0 1 7 with
 | false => rfl
 | true =>
 unfold b6s a9Z a7V a4u b6t a90 b6u a91 b6v a92 b6w a93 a7Y a5R a7X a5Q a7W a4v
 rw [b7B hN h4, e3C hN h4]
 simp only [a0s, a8g, d11, f52, getD_some, f5W]
 have e1 : inI 1 1 3 = true := rfl
 have e2 : inI 2 1 3 = true := rfl
 have e3 : inI 3 1 3 = true := rfl
 have e4 : inI 4 1 3 = false := rfl
 have e5 : inI 5 1 3 = false := rfl
 have e6 : inI 6 1 3 = false := rfl
 have e7 : inI 7 1 3 = false := rfl
 rcases d14 hk with rfl | rfl | rfl | rfl | rfl | rfl | rfl
 ·simp [e1]
  cases v1 != 0 <;> cases v2 != 0 <;> cases v3 != 0 <;> cases v4.isEmpty <;> rfl
 ·simp [e2]
  cases v1 != 0 <;> cases v2 != 0 <;> cases v3 != 0 <;> cases v4.isEmpty <;> rfl
 ·simp [e3]
  cases v1 != 0 <;> cases v2 != 0 <;> cases v3 != 0 <;> cases v4.isEmpty <;> cases (v6.length : Int) != 1 <;> rfl
 ·cases inI v2 1 5 <;> simp [e4]
  cases v1 != 0 <;> cases v3 != 0 <;> cases v4.isEmpty <;> cases decide (0 < v6.length) <;> rfl
 ·cases a8H v4 <;> simp [e5]
  cases v1 != 0 <;> cases v2 != 0 <;> cases v3 != 0 <;> cases decide (0 < v6.length) <;> rfl
 ·cases d9V v4 <;> simp [e6]
  cases v1 != 0 <;> cases v2 != 0 <;> cases v3 != 0 <;> cases decide (0 < v6.length) <;> rfl
 ·cases inI v1 1 7 <;> cases inI v2 (-1000000000000000) 1000000000000000 <;> cases inI v3 (-1000000000000000) 1000000000000000 <;> cases decide (v2 > v3) <;> simp [e7]
  cases v4.isEmpty <;> cases decide (0 < v6.length) <;> rfl
theorem d90 (hN : maxLen < N) (h4 : v4.length ≤ maxLen) {rc : a3v} {v5 : Bool} {v7 : Int} : c8W N rc v0 v1 v2 v3 v4 v5 v6 v7 =
  bif ndE v0 v1 v2 v3 v4 v6.length != 0 then some (ndE v0 v1 v2 v3 v4 v6.length) else bif decide (v7 > 20) then some 3 else
   bif a04 (b0m N rc v7 v6 (v6.length : Int) 0) then some (a0P (b0m N rc v7 v6 (v6.length : Int) 0)) else bif (a0r (b0m N rc v7 v6 (v6.length : Int) 0)).isSome then some 0 else none := by
 unfold c8W d8f
 rw [e3I hN h4]
 rfl
end
abbrev k0 (x : D) : Int := (x.cell 0).toI
abbrev k1 (x : D) : Int := (x.cell 1).toI
abbrev k2 (x : D) : Int := (x.cell 2).toI
abbrev k3 (x : D) : Int := (x.cell 3).toI
abbrev k4 (x : D) : List UInt8 := (x.cell 4).toS
abbrev k5 (x : D) : Bool := (x.cell 5).isNil
abbrev k6 (x : D) : List D := (x.cell 5).items
theorem a7G (hN : maxLen < N) : ∀ (m m' : Nat) (v0 v1 v2 v3 : Int) (v4 : List UInt8) (v5 : Bool) (v6 : List D) (v7 : Int), a3k v6 < m → a3k v6 < m' → a3k v6 ≤ 2097152 → v4.length ≤ maxLen → 0 ≤ v7 → v7 ≤ 21 →
  ∃ e, b9K N m v0 v1 v2 v3 v4 v5 v6 v7 = some e ∧ b0R N m' v0 v1 v2 v3 v4 v5 v6 v7 = some e ∧
   (e = 0 → ndE v0 v1 v2 v3 v4 v6.length = 0 ∧ v7 ≤ 20 ∧ ∀ x ∈ v6, ∀ n, a3k (k6 x) < n → b0R N n (k0 x) (k1 x) (k2 x) (k3 x) (k4 x) (k5 x) (k6 x) (v7 + 1) = some 0)
 | 0, _, _, _, _, _, _, _, _, _, h, _, _, _, _, _ => by omega
 | _, 0, _, _, _, _, _, _, _, _, _, h, _, _, _, _ => by omega
 | m + 1, m' + 1, v0, v1, v2, v3, v4, v5, v6, v7, h, h', hM, h4, hv, hv' => by
  have hm : maxLen = 9223372036854775807 := rfl
  have hlen := b0D v6
  show ∃ e, c72 N (b9K N m) v0 v1 v2 v3 v4 v5 v6 v7 = some e ∧ c8W N (b0R N m') v0 v1 v2 v3 v4 v5 v6 v7 = some e ∧ _
  rw [d9Z hN h4, d90 hN h4]
  cases hnd : ndE v0 v1 v2 v3 v4 v6.length != 0 with
  | true => exact ⟨_, rfl, rfl, fun h0 => by rw [h0] at hnd; cases hnd⟩
  | false =>
  by_cases h20 : v7 > 20
  ·rw [decide_eq_true h20]
   exact ⟨3, rfl, rfl, fun h0 => by omega⟩
  ·rw [decide_eq_false h20]
   simp only [f5X]
   have hnd : ndE v0 v1 v2 v3 v4 v6.length = 0 := by simpa using hnd
   have e : ∃ z, a7Z N (b9K N m) v7 v6 (v6.length : Int) 0 = some (c4q z) ∧ b0m N (b0R N m') v7 v6 (v6.length : Int) 0 = some (c4q z) ∧ (z = 0 → ∀ x ∈ v6.drop (0 : Int).toNat, ∀ n, a3k (k6 x) < n → b0R N n (k0 x) (k1 x) (k2 x) (k3 x) (k4 x) (k5 x) (k6 x) (v7 + 1) = some 0) := by
    unfold a7Z b0m
    have := a1P (A := Int) (X := Option (Sum Int Unit) × Option (Sum Int Unit))
     (S := fun w kr => (a94 N (b9K N m) v7 v6 (v6.length : Int) w (fun w => (kr w).1) (fun p => some (Sum.inl p)) (fun p => some (Sum.inr p)), b0l N (b0R N m') v7 v6 (v6.length : Int) w (fun w => (kr w).2) (fun p => some (Sum.inl p)) (fun p => some (Sum.inr p))))
     (L := fun f w => (b6x N (b9K N m) v7 v6 (v6.length : Int) f w (fun p => some (Sum.inl p)) (fun p => some (Sum.inr p)), b64 N (b0R N m') v7 v6 (v6.length : Int) f w (fun p => some (Sum.inl p)) (fun p => some (Sum.inr p)))) (fun f a => rfl)
     (fun w X => ∃ z, X.1 = some (c4q z) ∧ X.2 = some (c4q z) ∧ (z = 0 → ∀ x ∈ v6.drop w.toNat, ∀ n, a3k (k6 x) < n → b0R N n (k0 x) (k1 x) (k2 x) (k3 x) (k4 x) (k5 x) (k6 x) (v7 + 1) = some 0))
     (fun w => 0 ≤ w ∧ w ≤ v6.length) (fun w => (v6.length - w).toNat) (fun w kr ⟨h0, h1⟩ ih => by
      by_cases hw : w < v6.length
      ·have hd := a2w (.i 0 : D) h0 hw
       have hx := a02 h0 hw
       generalize hxx : v6.getD w.toNat (.i 0) = x at hd hx
       have q1 : a3k (k6 x) < szD x := a8i x 5
       have q2 := a5v hx
       have q3 : (k4 x).length < szD x := d9W x 4
       simp only [a94, b0l, decide_eq_true hw, f5W, a1u h0 hw, a0s, hxx]
       rw [a1g (by omega) (by omega), a1g (by omega) (by omega)]
       obtain ⟨e, e1, e2, _⟩ := a7G hN m m' (k0 x) (k1 x) (k2 x) (k3 x) (k4 x) (k5 x) (k6 x) (v7 + 1) (by omega) (by omega) (by omega) (by omega) (by omega) (by omega)
       rw [e1, e2]
       simp only [f52, f5W, getD_some]
       cases he : e != 0 with
       | true => exact ⟨e, by simp [c4q, he], by simp [c4q, he], fun h0 => by rw [h0] at he; cases he⟩
       | false =>
        have he : e = 0 := by simpa using he
        subst he
        obtain ⟨z, z1, z2, z3⟩ := ih (w + 1) ⟨by omega, by omega⟩ (by omega)
        refine ⟨z, z1, z2, fun hz y hy n hn => ?_⟩
        rw [hd] at hy
        rcases f59.1 hy with rfl | hy
        ·obtain ⟨e', f1, f2, _⟩ := a7G hN m n (k0 y) (k1 y) (k2 y) (k3 y) (k4 y) (k5 y) (k6 y) (v7 + 1) (by omega) hn (by omega) (by omega) (by omega) (by omega)
         rw [e1] at f1
         rw [f2, ← f1]
        ·exact z3 hz y hy n hn
      ·have : w = v6.length := by omega
       subst this
       simp only [a94, b0l, decide_eq_false hw, f5X]
       refine ⟨0, rfl, rfl, fun _ y hy => ?_⟩
       rw [a1y hw] at hy
       cases hy) N 0 ⟨by omega, by omega⟩ (by omega)
    simpa using this
   obtain ⟨z, z1, z2, z3⟩ := e
   rw [z1, z2]
   refine ⟨z, ?_, ?_, fun hz => ⟨hnd, by omega, fun x hx => z3 hz x (by simpa using hx)⟩⟩
   ·exact b36 (k := some)
   ·exact b36 (k := some)
theorem e8Q (hN : maxLen < N) {v0 v1 v2 v3 : Int} {v4 : List UInt8} {v5 : Bool} {v6 : List D} (hM : a3k v6 ≤ 2097152) (h4 : v4.length ≤ maxLen) :
  ∃ e, d5Z N v0 v1 v2 v3 v4 v5 v6 = some e ∧ d8j N v0 v1 v2 v3 v4 v5 v6 = some e ∧ (e = 0 → b0R N N v0 v1 v2 v3 v4 v5 v6 0 = some 0) := by
 have hm : maxLen = 9223372036854775807 := rfl
 unfold d5Z d5Y d8j d8i
 rw [d9X hN N _ _ _ _ _ _ _ (by omega) hM, d9Y hN N _ _ _ _ _ _ _ _ (by omega) hM (by omega) (by omega)]
 obtain ⟨e, e1, e2, _⟩ := a7G hN N N v0 v1 v2 v3 v4 v5 v6 0 (by omega) (by omega) hM h4 (by omega) (by omega)
 rw [e1, e2]
 simp only [a0s, f52, f5W, getD_some]
 by_cases hc : (cn v6 : Int) > 100
 ·rw [decide_eq_true hc, decide_eq_true (by omega)]
  exact ⟨3, rfl, rfl, fun h => by omega⟩
 ·rw [decide_eq_false hc, decide_eq_false (by omega)]
  exact ⟨e, rfl, rfl, fun h => by rw [h]⟩
end Go.Proofs.YtfkkcdapcgimlaaGreatDoor

namespace Go.Proofs.YtfkkcdapcgimlaaGreatDoor
open Go Go.AM
set_option maxRecDepth 100000
set_option maxHeartbeats 4000000
variable {N : Nat}
theorem e3J {v0 v1 v2 v3 : Int} {v4 : List UInt8} {n : Nat} (h : ndE v0 v1 v2 v3 v4 n = 0) : inI v0 1 7 = true ∧ (v0 = 7 → inI v1 1 7 = true) ∧ (v0 = 3 → n = 1) := by
 unfold ndE at h
 cases h1 : inI v0 1 7 with
 | false => rw [h1] at h; cases h
 | true =>
 rw [h1] at h
 refine ⟨rfl, fun h7 => ?_, fun h3 => ?_⟩
 ·subst h7
  cases h2 : inI v1 1 7 with
  | true => rfl
  | false => rw [h2] at h; cases h
 ·subst h3
  cases h2 : ((n : Int) != 1) with
  | false =>
   have : (n : Int) = 1 := by simpa using h2
   omega
  | true =>
   rw [h2] at h
   simp at h
section
variable {v1 v2 v3 : Int} {v4 : List UInt8} {v7 : List UInt8} {v8 v9 v10 v11 v12 v13 : Int} {v14 : Bool} {v15 : List D}
theorem e8R (hN : maxLen < N) (rc : a0g) (rc' : a0N) (hl : v15.length ≤ maxLen) : ∃ b, d69 N rc v15 v4 = some b ∧ ∃ z, b7q N rc' v15 (v15.length : Int) v4 0 = some z ∧ (b = true ∧ z = .inl () ∨ b = false ∧ z = .inr ()) := by
 have hm : maxLen = 9223372036854775807 := rfl
 have e : ∃ z z', c2M N rc v15 v4 (v15.length : Int) 0 = some z ∧ b7q N rc' v15 (v15.length : Int) v4 0 = some z' ∧ ((∃ i, 0 ≤ i ∧ z = .inl i ∧ z' = .inl ()) ∨ z = .inr () ∧ z' = .inr ()) := by
  unfold c2M b7q
  have := a1P (A := Int) (X := Option (Sum Int Unit) × Option (Sum Unit Unit))
   (S := fun w kr => (b0f N rc v15 v4 (v15.length : Int) w (fun w => (kr w).1) (fun p => some (Sum.inl p)) (fun p => some (Sum.inr p)), b0v N rc' v15 (v15.length : Int) v4 w (fun w => (kr w).2) (fun p => some (Sum.inl p)) (fun p => some (Sum.inr p))))
   (L := fun f w => (b6S N rc v15 v4 (v15.length : Int) f w (fun p => some (Sum.inl p)) (fun p => some (Sum.inr p)), b7p N rc' v15 (v15.length : Int) v4 f w (fun p => some (Sum.inl p)) (fun p => some (Sum.inr p)))) (fun f a => rfl)
   (fun w X => ∃ z z', X.1 = some z ∧ X.2 = some z' ∧ ((∃ i, 0 ≤ i ∧ z = .inl i ∧ z' = .inl ()) ∨ z = .inr () ∧ z' = .inr ()))
   (fun w => 0 ≤ w ∧ w ≤ v15.length) (fun w => (v15.length - w).toNat) (fun w kr ⟨h0, h1⟩ ih => by
    by_cases hw : w < v15.length
    ·simp only [b0f, b0v, decide_eq_true hw, f5W, a1u h0 hw]
     rw [a1g (by omega) (by omega), show (v4 == (v15.getD w.toNat (.i 0)).toS) = ((v15.getD w.toNat (.i 0)).toS == v4) from Bool.eq_iff_iff.2 (by simp only [beq_iff_eq]; exact ⟨Eq.symm, Eq.symm⟩)]
     cases (v15.getD w.toNat (.i 0)).toS == v4 with
     | true => exact ⟨_, _, rfl, rfl, .inl ⟨w, h0, rfl, rfl⟩⟩
     | false => exact ih (w + 1) ⟨by omega, by omega⟩ (by omega)
    ·simp only [b0f, b0v, decide_eq_false hw, f5X]
     exact ⟨_, _, rfl, rfl, .inr ⟨rfl, rfl⟩⟩) N 0 ⟨by omega, by omega⟩ (by omega)
  exact this
 obtain ⟨z, z', e1, e2, e3⟩ := e
 unfold d69 d3g d0S c0Z
 rw [e1, e2]
 rcases e3 with ⟨i, hi, rfl, rfl⟩ | ⟨rfl, rfl⟩
 ·refine ⟨true, ?_, _, rfl, .inl ⟨rfl, rfl⟩⟩
  show some (decide (i ≥ 0)) = _
  rw [decide_eq_true hi]
 ·exact ⟨false, rfl, _, rfl, .inr ⟨rfl, rfl⟩⟩
theorem f3O (rc : a0g) (rc' : a0N) (h : inI v1 1 7 = true) : b2Q N rc v1 v2 v3 v9 v10 v11 v12 v13 = some (bif (decide (v2 ≤ (d3I N rc' v9 v10 v11 v12 v13 v1))) then (decide ((d3I N rc' v9 v10 v11 v12 v13 v1) ≤ v3)) else false) := by
 unfold b2Q b2P d3I d8T d0X c00 d07 c01
 simp only [a0s, a8g, inI]
 have e : ∀ n : Int, decide (v2 ≤ n ∧ n ≤ v3) = (bif decide (v2 ≤ n) then decide (n ≤ v3) else false) := fun n => by
  rw [Bool.eq_iff_iff]; simp
 rcases d14 h with rfl | rfl | rfl | rfl | rfl | rfl | rfl <;> simp only [e] <;> rfl
theorem c66 (hN : maxLen < N) (h7 : v7.length < 4294967281) (hl : v15.length ≤ maxLen) : ∀ (m m' : Nat) (v0 v1 v2 v3 : Int) (v4 : List UInt8) (v5 : Bool) (v6 : List D) (lv : Int), a3k v6 < m → a3k v6 < m' → a3k v6 ≤ 2097152 → v4.length ≤ maxLen → 0 ≤ lv → lv ≤ 21 →
  b0R N (a3k v6 + 1) v0 v1 v2 v3 v4 v5 v6 lv = some 0 →
  ∃ b, a8F N m v0 v1 v2 v3 v4 v5 v6 v7 v8 v9 v10 v11 v12 v13 v14 v15 = some b ∧ b95 N m' v0 v1 v2 v3 v4 v5 v6 v7 v8 v9 v10 v11 v12 v13 v14 v15 = some b
 | 0, _, _, _, _, _, _, _, _, _, h, _, _, _, _, _, _ => by omega
 | _, 0, _, _, _, _, _, _, _, _, _, h, _, _, _, _, _ => by omega
 | m + 1, m' + 1, v0, v1, v2, v3, v4, v5, v6, lv, h, h', hM, h4, hv, hv', hok => by
  have hm : maxLen = 9223372036854775807 := rfl
  have hlen := b0D v6
  obtain ⟨e, e1, e2, e3⟩ := a7G hN (a3k v6 + 1) (a3k v6 + 1) v0 v1 v2 v3 v4 v5 v6 lv (by omega) (by omega) hM h4 hv hv'
  rw [hok] at e2
  obtain ⟨hnd, hlv, hkids⟩ := e3 (Option.some.inj e2).symm
  obtain ⟨n1, n2, n3⟩ := e3J hnd
  have kid : ∀ x ∈ v6, ∃ b, a8F N m (k0 x) (k1 x) (k2 x) (k3 x) (k4 x) (k5 x) (k6 x) v7 v8 v9 v10 v11 v12 v13 v14 v15 = some b ∧ b95 N m' (k0 x) (k1 x) (k2 x) (k3 x) (k4 x) (k5 x) (k6 x) v7 v8 v9 v10 v11 v12 v13 v14 v15 = some b := by
   intro x hx
   have q1 : a3k (k6 x) < szD x := a8i x 5
   have q2 := a5v hx
   have q3 : (k4 x).length < szD x := d9W x 4
   exact c66 hN h7 hl m m' _ _ _ _ _ _ _ (lv + 1) (by omega) (by omega) (by omega) (by omega) (by omega) (by omega) (hkids x hx _ (Nat.lt_succ_self _))
  show ∃ b, d3i N (a8F N m) v0 v1 v2 v3 v4 v5 v6 v7 v8 v9 v10 v11 v12 v13 v14 v15 = some b ∧ d3J N (b95 N m') v0 v1 v2 v3 v4 v5 v6 v7 v8 v9 v10 v11 v12 v13 v14 v15 = some b
  generalize hrc : a8F N m = rc at kid ⊢
  generalize hrc' : b95 N m' = rc' at kid ⊢
  unfold d3i d7l d3J d83
  rcases d14 n1 with rfl | rfl | rfl | rfl | rfl | rfl | rfl
  ·have e : (b6N N rc v6 (v6.length : Int) v7 v8 v9 v10 v11 v12 v13 v14 v15 0 = some (.inr ()) ∧ b7k N rc' v6 (v6.length : Int) v7 v8 v9 v10 v11 v12 v13 v14 v15 0 = some (.inr ())) ∨ (∃ i, 0 ≤ i ∧ b6N N rc v6 (v6.length : Int) v7 v8 v9 v10 v11 v12 v13 v14 v15 0 = some (.inl i) ∧ b7k N rc' v6 (v6.length : Int) v7 v8 v9 v10 v11 v12 v13 v14 v15 0 = some (.inl ())) := by
    unfold b6N b7k
    exact a1P (A := Int) (X := Option (Sum Int Unit) × Option (Sum Unit Unit))
     (S := fun w kr => (b0d N rc v6 (v6.length : Int) v7 v8 v9 v10 v11 v12 v13 v14 v15 w (fun w => (kr w).1) (fun p => some (Sum.inl p)) (fun p => some (Sum.inr p)), b0t N rc' v6 (v6.length : Int) v7 v8 v9 v10 v11 v12 v13 v14 v15 w (fun w => (kr w).2) (fun p => some (Sum.inl p)) (fun p => some (Sum.inr p))))
     (L := fun f w => (b6M N rc v6 (v6.length : Int) v7 v8 v9 v10 v11 v12 v13 v14 v15 f w (fun p => some (Sum.inl p)) (fun p => some (Sum.inr p)), b7j N rc' v6 (v6.length : Int) v7 v8 v9 v10 v11 v12 v13 v14 v15 f w (fun p => some (Sum.inl p)) (fun p => some (Sum.inr p)))) (fun f a => rfl)
     (fun w X => (X.1 = some (.inr ()) ∧ X.2 = some (.inr ())) ∨ (∃ i, 0 ≤ i ∧ X.1 = some (.inl i) ∧ X.2 = some (.inl ())))
     (fun w => 0 ≤ w ∧ w ≤ v6.length) (fun w => (v6.length - w).toNat) (fun w kr ⟨h0, h1⟩ ih => by
      by_cases hw : w < v6.length
      ·obtain ⟨b, b1, b2⟩ := kid _ (a02 h0 hw)
       simp only [b0d, b0t, e1M, d6U, c5V, c8c, decide_eq_true hw, f5W, a1u h0 hw, a0s]
       rw [a1g (by omega) (by omega), b1, b2]
       simp only [f52, f5W, getD_some]
       cases b with
       | false => exact .inr ⟨w, h0, rfl, rfl⟩
       | true => exact ih (w + 1) ⟨by omega, by omega⟩ (by omega)
      ·exact .inl ⟨by simp [b0d, hw], by simp [b0t, hw]⟩) N 0 ⟨by omega, by omega⟩ (by omega)
   unfold e1R d6Z d0M c5Z
   rcases e with ⟨f1, f2⟩ | ⟨i, hi, f1, f2⟩
   ·rw [f1, f2]; exact ⟨true, rfl, rfl⟩
   ·rw [f1, f2]
    refine ⟨false, ?_, rfl⟩
    show some (!decide (i ≥ 0)) = _
    rw [decide_eq_true hi]; rfl
  ·have e : (b6Q N rc v6 (v6.length : Int) v7 v8 v9 v10 v11 v12 v13 v14 v15 0 = some (.inr ()) ∧ b7n N rc' v6 (v6.length : Int) v7 v8 v9 v10 v11 v12 v13 v14 v15 0 = some (.inr ())) ∨ (∃ i, 0 ≤ i ∧ b6Q N rc v6 (v6.length : Int) v7 v8 v9 v10 v11 v12 v13 v14 v15 0 = some (.inl i) ∧ b7n N rc' v6 (v6.length : Int) v7 v8 v9 v10 v11 v12 v13 v14 v15 0 = some (.inl ())) := by
    unfold b6Q b7n
    exact a1P (A := Int) (X := Option (Sum Int Unit) × Option (Sum Unit Unit))
     (S := fun w kr => (b0e N rc v6 (v6.length : Int) v7 v8 v9 v10 v11 v12 v13 v14 v15 w (fun w => (kr w).1) (fun p => some (Sum.inl p)) (fun p => some (Sum.inr p)), b0u N rc' v6 (v6.length : Int) v7 v8 v9 v10 v11 v12 v13 v14 v15 w (fun w => (kr w).2) (fun p => some (Sum.inl p)) (fun p => some (Sum.inr p))))
     (L := fun f w => (b6P N rc v6 (v6.length : Int) v7 v8 v9 v10 v11 v12 v13 v14 v15 f w (fun p => some (Sum.inl p)) (fun p => some (Sum.inr p)), b7m N rc' v6 (v6.length : Int) v7 v8 v9 v10 v11 v12 v13 v14 v15 f w (fun p => some (Sum.inl p)) (fun p => some (Sum.inr p)))) (fun f a => rfl)
     (fun w X => (X.1 = some (.inr ()) ∧ X.2 = some (.inr ())) ∨ (∃ i, 0 ≤ i ∧ X.1 = some (.inl i) ∧ X.2 = some (.inl ())))
     (fun w => 0 ≤ w ∧ w ≤ v6.length) (fun w => (v6.length - w).toNat) (fun w kr ⟨h0, h1⟩ ih => by
      by_cases hw : w < v6.length
      ·obtain ⟨b, b1, b2⟩ := kid _ (a02 h0 hw)
       simp only [b0e, b0u, c5V, c8c, decide_eq_true hw, f5W, a1u h0 hw, a0s]
       rw [a1g (by omega) (by omega), b1, b2]
       simp only [f52, f5W, getD_some]
       cases b with
       | true => exact .inr ⟨w, h0, rfl, rfl⟩
       | false => exact ih (w + 1) ⟨by omega, by omega⟩ (by omega)
      ·exact .inl ⟨by simp [b0e, hw], by simp [b0u, hw]⟩) N 0 ⟨by omega, by omega⟩ (by omega)
   unfold e1W d64 d0P c53
   rcases e with ⟨f1, f2⟩ | ⟨i, hi, f1, f2⟩
   ·rw [f1, f2]; exact ⟨false, rfl, rfl⟩
   ·rw [f1, f2]
    refine ⟨true, ?_, rfl⟩
    show some (decide (i ≥ 0)) = _
    rw [decide_eq_true hi]
  ·have hl1 := n3 rfl
   have hb : inB 0 v6.length = true := a1u (by omega) (by omega)
   obtain ⟨b, b1, b2⟩ := kid _ (a02 (l := v6) (w := 0) (by omega) (by omega))
   rw [hb]
   unfold c5V c8c
   have b1 : rc ((v6.getD 0 (.i 0)).cell 0).toI ((v6.getD 0 (.i 0)).cell 1).toI ((v6.getD 0 (.i 0)).cell 2).toI ((v6.getD 0 (.i 0)).cell 3).toI ((v6.getD 0 (.i 0)).cell 4).toS ((v6.getD 0 (.i 0)).cell 5).isNil ((v6.getD 0 (.i 0)).cell 5).items v7 v8 v9 v10 v11 v12 v13 v14 v15 = some b := b1
   have b2 : rc' ((v6.getD 0 (.i 0)).cell 0).toI ((v6.getD 0 (.i 0)).cell 1).toI ((v6.getD 0 (.i 0)).cell 2).toI ((v6.getD 0 (.i 0)).cell 3).toI ((v6.getD 0 (.i 0)).cell 4).toS ((v6.getD 0 (.i 0)).cell 5).isNil ((v6.getD 0 (.i 0)).cell 5).items v7 v8 v9 v10 v11 v12 v13 v14 v15 = some b := b2
   rw [b1, b2]
   exact ⟨!b, rfl, rfl⟩
  ·exact ⟨v8 == v2, rfl, rfl⟩
  ·obtain ⟨b, f1, z, f2, f3⟩ := e8R (v4 := v4) hN rc rc' hl
   rw [f1, f2]
   rcases f3 with ⟨rfl, rfl⟩ | ⟨rfl, rfl⟩
   ·exact ⟨true, rfl, rfl⟩
   ·exact ⟨false, rfl, rfl⟩
  ·have hb : Nat.blt v7.length 4294967281 = true := Nat.ble_eq_true_of_le h7
   rw [hb]
   exact ⟨Lib.contains v7 v4, rfl, rfl⟩
  ·rw [f3O rc rc' (n2 rfl)]
   exact ⟨_, rfl, rfl⟩
end
theorem d91 {v0 : List UInt8} {v1 v2 v3 v4 v5 v6 : Int} {v8 : List D} (h : e3D v0 v1 v2 v3 v4 v5 v6 v8 = 0) : v0.length ≤ 60 := by
 unfold e3D at h
 cases hn : a8H v0 with
 | false => rw [hn] at h; cases h
 | true =>
  unfold a8H at hn
  simp at hn
  omega
end Go.Proofs.YtfkkcdapcgimlaaGreatDoor

namespace Go.Proofs.YtfkkcdapcgimlaaGreatDoor
open Go Go.AM
set_option maxRecDepth 100000
set_option maxHeartbeats 4000000
variable {N : Nat}
structure a8j (x : D) : Prop where
 name : (x.cell 0).toS.length ≤ maxLen
 text : (x.cell 8).toS.length ≤ maxLen
 size : a3k (x.cell 9).items ≤ 2097152
structure b4T (x : D) : Prop where
 name : (x.cell 0).toS.length ≤ maxLen
 tags : (x.cell 7).items.length ≤ maxLen
 words : ∀ j : Nat, (((x.cell 7).items.getD j (.i 0)).toS).length ≤ maxLen
abbrev nmD (x : D) : List UInt8 := (x.cell 0).toS
structure c9q (N : Nat) (x : D) : Prop where
 cond : b0R N N (x.cell 4).toI (x.cell 5).toI (x.cell 6).toI (x.cell 7).toI (x.cell 8).toS (x.cell 9).isNil (x.cell 9).items 0 = some 0
 kind : inI (x.cell 1).toI 1 4 = true
 field : ((x.cell 1).toI = 2 ∨ (x.cell 1).toI = 3) ∧ inI (x.cell 2).toI 1 7 = true ∨ ¬ ((x.cell 1).toI = 2 ∨ (x.cell 1).toI = 3) ∧ (x.cell 2).toI = 0
 num : inI (x.cell 3).toI 1 10000000000000 = true
theorem f3P (w : Bool) (n : Int) : b2y N w n = bif w then !inI n 1 7 else n != 0 := by
 unfold b2y a95
 simp only [a0s, d11]
 cases w <;> cases inI n 1 7 <;> rfl
theorem f3Q (w : Bool) (n : Int) : b3A N w n = bif w then !inI n 1 7 else n != 0 := by
 unfold b3A b0n
 simp only [a0s, c4p]
 cases w <;> cases inI n 1 7 <;> rfl
theorem d32 (hN : maxLen < N) {x : D} (h : a8j x) : ∃ e, d54 N (x.cell 0).toS (x.cell 1).toI (x.cell 2).toI (x.cell 3).toI (x.cell 4).toI (x.cell 5).toI (x.cell 6).toI (x.cell 7).toI (x.cell 8).toS (x.cell 9).isNil (x.cell 9).items = some e ∧
  d8o N (x.cell 0).toS (x.cell 1).toI (x.cell 2).toI (x.cell 3).toI (x.cell 4).toI (x.cell 5).toI (x.cell 6).toI (x.cell 7).toI (x.cell 8).toS (x.cell 9).isNil (x.cell 9).items = some e ∧ (e = 0 → c9q N x) := by
 obtain ⟨e, e1, e2, e3⟩ := e8Q hN (v0 := (x.cell 4).toI) (v1 := (x.cell 5).toI) (v2 := (x.cell 6).toI) (v3 := (x.cell 7).toI) (v4 := (x.cell 8).toS) (v5 := (x.cell 9).isNil) (v6 := (x.cell 9).items) h.size h.text
 unfold d54 d53 d8o d8n
 rw [b7B hN h.name, b7A hN h.name, e1, e2]
 simp only [a0s, f52, f5W, getD_some, a8g, a8h, f3P, f3Q]
 cases a8H (x.cell 0).toS with
 | false => exact ⟨8, rfl, rfl, fun h => (by cases h)⟩
 | true =>
 cases hk : inI (x.cell 1).toI 1 4 with
 | false => exact ⟨7, rfl, rfl, fun h => (by cases h)⟩
 | true =>
 cases he : e != 0 with
 | true => exact ⟨e, rfl, rfl, fun h => by simp [h] at he⟩
 | false =>
 have he0 : e = 0 := by simpa using he
 cases hf : (bif (bif ((x.cell 1).toI == 2) then true else ((x.cell 1).toI == 3)) then !inI (x.cell 2).toI 1 7 else (x.cell 2).toI != 0) with
 | true => exact ⟨7, rfl, rfl, fun h => (by cases h)⟩
 | false =>
 cases hn : inI (x.cell 3).toI 1 10000000000000 with
 | false => exact ⟨9, rfl, rfl, fun h => (by cases h)⟩
 | true =>
 refine ⟨0, rfl, rfl, fun _ => ⟨e3 he0, hk, ?_, hn⟩⟩
 by_cases h2 : (x.cell 1).toI = 2
 ·simp [h2] at hf
  exact .inl ⟨.inl h2, hf⟩
 ·by_cases h3 : (x.cell 1).toI = 3
  ·simp [h3] at hf
   exact .inl ⟨.inr h3, hf⟩
  ·simp [h2, h3] at hf
   exact .inr ⟨fun h => h.elim h2 h3, hf⟩
theorem b4U {l : List D} {w : Int} (h0 : 0 ≤ w) (h1 : w < l.length) : l.take (w + 1).toNat = l.take w.toNat ++ [l.getD w.toNat (.i 0)] := by
 have e : (w + 1).toNat = w.toNat + 1 := by omega
 have hl : w.toNat < l.length := by omega
 rw [e, List.take_add_one, f58 hl, f51, f58 hl]
 rfl
theorem f3R (hN : maxLen < N) {l : List D} (hl : l.length ≤ maxLen) (s : List UInt8) : d6b N l s = some (l.any fun y => nmD y == s) := by
 have h : ∃ i, 0 ≤ i ∧ c2w N l (l.length : Int) s 0 = some (bif l.any fun y => nmD y == s then .inl i else .inr ()) := by
  have := a1P (A := Int) (S := fun w kr => a96 N l (l.length : Int) s w kr _ _) (L := fun f w => b6z N l (l.length : Int) s f w (fun p => some (Sum.inl p)) (fun p => some (Sum.inr p))) (fun f a => rfl)
   (fun w X => ∃ i, 0 ≤ i ∧ X = some (bif (l.drop w.toNat).any fun y => nmD y == s then .inl i else .inr ()))
   (fun w => 0 ≤ w ∧ w ≤ l.length) (fun w => (l.length - w).toNat) (fun w kr ⟨h0, h1⟩ ih => by
    by_cases hw : w < l.length
    ·have hm : maxLen = 9223372036854775807 := rfl
     have ih := ih (w + 1) ⟨by omega, by omega⟩ (by omega)
     rw [a2w (.i 0 : D) h0 hw]
     simp only [a96, decide_eq_true hw, f5W, a1u h0 hw, a0s, e1l, d26, List.any_cons]
     rw [a1g (by omega) (by omega)]
     cases nmD (l.getD w.toNat (.i 0)) == s with
     | true => exact ⟨w, h0, rfl⟩
     | false => exact ih
    ·refine ⟨0, by omega, ?_⟩
     rw [a1y hw]
     simp [a96, hw]) N 0 ⟨by omega, by omega⟩ (by omega)
  simpa [c2w] using this
 obtain ⟨i, hi, h⟩ := h
 unfold d6b d27 d0t c0Q
 rw [h]
 cases l.any fun y => nmD y == s with
 | true =>
  show some (decide (i ≥ 0)) = _
  rw [decide_eq_true hi]
 | false => rfl
theorem f3S (hN : maxLen < N) {l : List D} (hl : l.length ≤ maxLen) (s : List UInt8) : c3U N l (l.length : Int) s 0 = some (bif l.any fun y => nmD y == s then .inl () else .inr ()) := by
 unfold c3U
 refine (a88 (.i 0 : D) (S := fun w kr => b0o N l (l.length : Int) s w kr _ _) (L := fun m w => b67 N l (l.length : Int) s m w _ _) (fun m w => rfl) (fun _ r => some (bif r.any fun y => nmD y == s then .inl () else .inr ())) hl ?_ ?_ hN).trans rfl
 ·intro kr; simp [b0o]
 ·intro w kr h0 h1 hw hi hk
  simp only [b0o, decide_eq_true h1, f5W, hi, hw, hk, List.any_cons]
  cases nmD (l.getD w.toNat (.i 0)) == s <;> rfl
structure b0E (N : Nat) (l : List D) : Prop where
 len : l.length ≤ 50
 each : ∀ x ∈ l, c9q N x
 apart : l.Pairwise fun x y => nmD x ≠ nmD y
theorem c67 (hN : maxLen < N) {l : List D} (hl : l.length ≤ maxLen) (hB : ∀ x ∈ l, a8j x) : ∃ e, d6f N l = some e ∧ d8w N l = some e ∧ (e = 0 → b0E N l) := by
 have hm : maxLen = 9223372036854775807 := rfl
 have h : ∃ z, c2y N l l (l.length : Int) 0 = some z ∧ c3V N l l (l.length : Int) 0 = some z ∧ (z = .inr () → (∀ x ∈ l, c9q N x) ∧ l.Pairwise fun x y => nmD x ≠ nmD y) ∧ ∀ e, z = .inl e → e ≠ 0 := by
  unfold c2y c3V
  have := a1P (A := Int) (X := Option (Sum Int Unit) × Option (Sum Int Unit))
   (S := fun w kr => (a97 N l l (l.length : Int) w (fun w => (kr w).1) (fun p => some (Sum.inl p)) (fun p => some (Sum.inr p)), b0p N l l (l.length : Int) w (fun w => (kr w).2) (fun p => some (Sum.inl p)) (fun p => some (Sum.inr p))))
   (L := fun f w => (b6B N l l (l.length : Int) f w (fun p => some (Sum.inl p)) (fun p => some (Sum.inr p)), b69 N l l (l.length : Int) f w (fun p => some (Sum.inl p)) (fun p => some (Sum.inr p)))) (fun f a => rfl)
   (fun w X => ∃ z, X.1 = some z ∧ X.2 = some z ∧ (z = .inr () → (∀ x ∈ l, c9q N x) ∧ l.Pairwise fun x y => nmD x ≠ nmD y) ∧ ∀ e, z = .inl e → e ≠ 0)
   (fun w => 0 ≤ w ∧ w ≤ l.length ∧ (∀ x ∈ l.take w.toNat, c9q N x) ∧ (l.take w.toNat).Pairwise fun x y => nmD x ≠ nmD y) (fun w => (l.length - w).toNat) (fun w kr ⟨h0, h1, h2, h3⟩ ih => by
    by_cases hw : w < l.length
    ·have hx := a02 h0 hw
     obtain ⟨e, e1, e2, e3⟩ := d32 hN (hB _ hx)
     have ht : ((l.take w.toNat).drop 0).length ≤ maxLen := by simp; omega
     simp only [a97, b0p, decide_eq_true hw, f5W, a1u h0 hw, a0s]
     rw [e1, e2, a1g (by omega) (by omega), f3R hN ht, f3S hN ht, decide_eq_true h0, decide_eq_true h1]
     simp only [f52, f5W, getD_some, Bool.and_true, List.drop_zero]
     cases he : e != 0 with
     | true => exact ⟨.inl e, rfl, rfl, fun h => (by cases h), fun e' h => by cases h; simpa using he⟩
     | false =>
     have he0 : e = 0 := by simpa using he
     cases ha : (l.take w.toNat).any fun y => nmD y == nmD (l.getD w.toNat (.i 0)) with
     | true => exact ⟨.inl 5, rfl, rfl, fun h => (by cases h), fun e' h => by cases h; omega⟩
     | false =>
      have ih := ih (w + 1) ⟨by omega, by omega, ?_, ?_⟩ (by omega)
      ·exact ih
      ·rw [b4U h0 hw]
       intro x hx
       rcases List.mem_append.1 hx with hx | hx
       ·exact h2 x hx
       ·simp only [List.mem_singleton] at hx
        subst hx
        exact e3 he0
      ·rw [b4U h0 hw, List.pairwise_append]
       refine ⟨h3, by simp, fun a ha' b hb => ?_⟩
       simp only [List.mem_singleton] at hb
       subst hb
       have := List.any_eq_false.1 ha a ha'
       simpa using this
    ·have : w.toNat = l.length := by omega
     rw [this, List.take_length] at h2 h3
     refine ⟨.inr (), ?_, ?_, fun _ => ⟨h2, h3⟩, fun e h => by cases h⟩ <;> simp [a97, b0p, hw]) N 0 ⟨by omega, by omega, by simp, by simp⟩ (by omega)
  exact this
 obtain ⟨z, z1, z2, z3, z4⟩ := h
 unfold d6f d28 d8w d3C
 rw [z1, z2]
 by_cases hc : (l.length : Int) > 50
 ·rw [decide_eq_true hc]
  exact ⟨3, rfl, rfl, fun h => by omega⟩
 ·rw [decide_eq_false hc]
  cases z with
  | inl e => exact ⟨e, rfl, rfl, fun h => absurd h (z4 e rfl)⟩
  | inr u => exact ⟨0, rfl, rfl, fun _ => ⟨by omega, (z3 rfl).1, (z3 rfl).2⟩⟩
end Go.Proofs.YtfkkcdapcgimlaaGreatDoor

namespace Go.Proofs.YtfkkcdapcgimlaaGreatDoor
open Go Go.AM
set_option maxRecDepth 100000
set_option maxHeartbeats 4000000
variable {N : Nat}
noncomputable abbrev d15 (x : D) : Int := e3D (x.cell 0).toS (x.cell 1).toI (x.cell 2).toI (x.cell 3).toI (x.cell 4).toI (x.cell 5).toI (x.cell 6).toI (x.cell 7).items
def b97 (l : List D) : List (D × D) := l.map fun x => (.s (nmD x), .b true)
theorem d92 (a b : List UInt8) : eqB Tryz.prog 9 (.s a) (.s b) = (a == b) := by kernel_rfl
theorem c68 {a : List UInt8} : ∀ {l : List D}, (∀ x ∈ l, nmD x ≠ a) → e0f Tryz.prog 9 (.s a) (.b true) (b97 l) = b97 l ++ [(.s a, .b true)]
 | [], _ => rfl
 | x :: r, h => by
  have h1 : (a == nmD x) = false := by have := h x (by simp); simp; exact fun e => this e.symm
  simp only [b97, List.map_cons, e0f, d92, h1, f5X, List.cons_append]
  have := c68 (a := a) (l := r) fun y hy => h y (by simp [hy])
  simp only [b97] at this
  rw [this]
theorem b9q {a : List UInt8} : ∀ {l : List D}, ((b0F Tryz.prog 9 (.s a) (b97 l)).getD (.b false)).toB = l.any fun y => nmD y == a
 | [] => rfl
 | x :: r => by
  simp only [b97, List.map_cons, b0F, d92, List.any_cons]
  cases h : a == nmD x with
  | true =>
   have : (nmD x == a) = true := by simp only [beq_iff_eq] at h ⊢; exact h.symm
   rw [this]; rfl
  | false =>
   have : (nmD x == a) = false := by
    cases e : nmD x == a with
    | false => rfl
    | true => rw [beq_iff_eq] at e; rw [← e, beq_self_eq_true] at h; cases h
   rw [this]
   exact b9q (l := r)
structure b1e (l : List D) : Prop where
 len : l.length ≤ 5000
 each : ∀ x ∈ l, d15 x = 0
 apart : l.Pairwise fun x y => nmD x ≠ nmD y
theorem d33 (hN : maxLen < N) {l : List D} (hl : l.length ≤ maxLen) (hB : ∀ x ∈ l, b4T x) : ∃ e, d6t N l = some e ∧ d8J N l = some e ∧ (e = 0 → b1e l) := by
 have hm : maxLen = 9223372036854775807 := rfl
 have h : ∃ z, c2C N l (l.length : Int) 0 [] = some z ∧ c3Y N l (l.length : Int) 0 [] = some z ∧ (z = .inr () → (∀ x ∈ l, d15 x = 0) ∧ l.Pairwise fun x y => nmD x ≠ nmD y) ∧ ∀ e, z = .inl e → e ≠ 0 := by
  unfold c2C c3Y
  have := a1P (A := Int × List (D × D)) (X := Option (Sum Int Unit) × Option (Sum Int Unit))
   (S := fun a kr => (a99 N l (l.length : Int) a.1 a.2 (fun w m => (kr (w, m)).1) (fun p => some (Sum.inl p)) (fun p => some (Sum.inr p)), b0r N l (l.length : Int) a.1 a.2 (fun w m => (kr (w, m)).2) (fun p => some (Sum.inl p)) (fun p => some (Sum.inr p))))
   (L := fun f a => (b6I N l (l.length : Int) f a.1 a.2 (fun p => some (Sum.inl p)) (fun p => some (Sum.inr p)), b7e N l (l.length : Int) f a.1 a.2 (fun p => some (Sum.inl p)) (fun p => some (Sum.inr p)))) (fun f a => rfl)
   (fun w X => ∃ z, X.1 = some z ∧ X.2 = some z ∧ (z = .inr () → (∀ x ∈ l, d15 x = 0) ∧ l.Pairwise fun x y => nmD x ≠ nmD y) ∧ ∀ e, z = .inl e → e ≠ 0)
   (fun a => 0 ≤ a.1 ∧ a.1 ≤ l.length ∧ (∀ x ∈ l.take a.1.toNat, d15 x = 0) ∧ ((l.take a.1.toNat).Pairwise fun x y => nmD x ≠ nmD y) ∧ a.2 = b97 (l.take a.1.toNat)) (fun a => (l.length - a.1).toNat) (fun ⟨w, m⟩ kr ⟨h0, h1, h2, h3, h4⟩ ih => by
    simp only at h0 h1 h2 h3 h4 ⊢
    subst h4
    by_cases hw : w < l.length
    ·have hx := a02 h0 hw
     have hb := hB _ hx
     simp only [a99, b0r, decide_eq_true hw, f5W, a1u h0 hw, a0s]
     rw [e3E hN hb.name hb.tags hb.words, e3F hN hb.name hb.tags hb.words, a1g (by omega) (by omega)]
     simp only [f52, f5W, getD_some, b9q]
     cases he : d15 (l.getD w.toNat (.i 0)) != 0 with
     | true => exact ⟨.inl _, rfl, rfl, fun h => (by cases h), fun e' h => by cases h; simpa using he⟩
     | false =>
     have he0 : d15 (l.getD w.toNat (.i 0)) = 0 := by simpa using he
     simp only [f5X]
     cases ha : (l.take w.toNat).any fun y => nmD y == nmD (l.getD w.toNat (.i 0)) with
     | true => exact ⟨.inl 5, rfl, rfl, fun h => (by cases h), fun e' h => by cases h; omega⟩
     | false =>
      have hne : ∀ a ∈ l.take w.toNat, nmD a ≠ nmD (l.getD w.toNat (.i 0)) := fun a ha' => by
       have := List.any_eq_false.1 ha a ha'
       simpa using this
      have ih := ih (w + 1, e0f Tryz.prog 9 (.s (nmD (l.getD w.toNat (.i 0)))) (.b true) (b97 (l.take w.toNat))) ⟨by simp only; omega, by simp only; omega, ?_, ?_, ?_⟩ (by simp only; omega)
      ·exact ih
      ·simp only
       rw [b4U h0 hw]
       intro x hx
       rcases List.mem_append.1 hx with hx | hx
       ·exact h2 x hx
       ·simp only [List.mem_singleton] at hx
        subst hx
        exact he0
      ·simp only
       rw [b4U h0 hw, List.pairwise_append]
       refine ⟨h3, by simp, fun a ha' b hb => ?_⟩
       simp only [List.mem_singleton] at hb
       subst hb
       exact hne a ha'
      ·simp only
       rw [c68 hne, b4U h0 hw]
       simp [b97]
    ·have : w.toNat = l.length := by omega
     rw [this, List.take_length] at h2 h3
     refine ⟨.inr (), ?_, ?_, fun _ => ⟨h2, h3⟩, fun e h => (by cases h)⟩ <;> simp [a99, b0r, hw]) N (0, []) ⟨by simp, by simp only; omega, by simp, by simp, by simp [b97]⟩ (by simp only; omega)
  exact this
 obtain ⟨z, z1, z2, z3, z4⟩ := h
 unfold d6t d29 d8J d3F
 rw [z1, z2]
 by_cases hc : (l.length : Int) > 5000
 ·rw [decide_eq_true hc]
  exact ⟨3, rfl, rfl, fun h => by omega⟩
 ·rw [decide_eq_false hc]
  cases z with
  | inl e => exact ⟨e, rfl, rfl, fun h => absurd h (z4 e rfl)⟩
  | inr u => exact ⟨0, rfl, rfl, fun _ => ⟨by omega, (z3 rfl).1, (z3 rfl).2⟩⟩
end Go.Proofs.YtfkkcdapcgimlaaGreatDoor

namespace Go.Proofs.YtfkkcdapcgimlaaGreatDoor
open Go Go.AM Go.Sort
set_option maxRecDepth 100000
set_option maxHeartbeats 4000000
variable {N : Nat}
theorem a5w : ∀ a b : List UInt8, Op.bytesLess a b = true ↔ Lib.compareBytes a b < 0
 | _, [] => by cases ‹List UInt8› <;> simp [Op.bytesLess, Lib.compareBytes]
 | [], _ :: _ => by simp [Op.bytesLess, Lib.compareBytes]
 | x :: a, y :: b => by
  have ih := a5w a b
  have h1 : x < y ↔ x.toNat < y.toNat := UInt8.lt_iff_toNat_lt
  have h2 : y < x ↔ y.toNat < x.toNat := UInt8.lt_iff_toNat_lt
  have h3 : x = y ↔ x.toNat = y.toNat := UInt8.toNat_inj.symm
  simp only [Op.bytesLess, Lib.compareBytes, Bool.or_eq_true, f5U, decide_eq_true_eq, beq_iff_eq]
  by_cases p : x < y
  ·simp [p]
  ·by_cases q : y < x
   ·have : ¬ x = y := by rw [h3]; rw [h2] at q; omega
    simp [p, q, this]
   ·have : x = y := by rw [h3]; rw [h1] at p; rw [h2] at q; omega
    simp [p, q, this, ih]
theorem a3l : ∀ a b : List UInt8, Lib.compareBytes a b = 0 → a = b
 | [], [], _ => rfl
 | [], _ :: _, h => by simp [Lib.compareBytes] at h
 | _ :: _, [], h => by simp [Lib.compareBytes] at h
 | x :: a, y :: b, h => by
  have h1 : x < y ↔ x.toNat < y.toNat := UInt8.lt_iff_toNat_lt
  have h2 : y < x ↔ y.toNat < x.toNat := UInt8.lt_iff_toNat_lt
  have h3 : x = y ↔ x.toNat = y.toNat := UInt8.toNat_inj.symm
  simp only [Lib.compareBytes] at h
  split at h
  ·omega
  ·split at h
   ·omega
   ·rename_i p q
    have : x = y := by rw [h3]; rw [h1] at p; rw [h2] at q; omega
    rw [this, a3l a b h]
def leO (c : D → D → Int) (x y : D) : Bool := !ltOf c y x
theorem a9G {c : D → D → Int} (h : a8G c) (x y : D) : leO c x y = true ↔ c x y ≤ 0 := by
 have := h.sym y x
 unfold leO ltOf
 simp; omega
theorem b9r {c : D → D → Int} (h : a8G c) (x y z : D) (h1 : leO c x y = true) (h2 : leO c y z = true) : leO c x z = true := by
 rw [a9G h] at *
 exact h.trans x y z h1 h2
theorem c69 {c : D → D → Int} (h : a8G c) (x y : D) : (leO c x y || leO c y x) = true := by
 rw [Bool.or_eq_true, a9G h, a9G h]
 have := h.sym x y
 omega
theorem b4V {c : D → D → Int} (h : a8G c) {l r s : List D} (hr : r.Perm l) (hs : s.Perm l) (h1 : r.Pairwise fun x y => leO c x y = true) (h2 : s.Pairwise fun x y => leO c x y = true)
  (ha : ∀ x ∈ l, ∀ y ∈ l, c x y = 0 → x = y) : r = s := by
 refine List.Perm.eq_of_pairwise (le := fun x y => leO c x y = true) (fun a b ha' hb' h1 h2 => ?_) h1 h2 (hr.trans hs.symm)
 refine ha a (hr.mem_iff.1 ha') b (hs.mem_iff.1 hb') ?_
 rw [a9G h] at *
 have e1 := h.sym a b
 have e2 := h.sym b a
 omega
theorem c1D {P : Program} {e : TypeId} {os : a4g} (xs : List D) : (c4m P e os xs).Perm xs := List.mergeSort_perm _ _
theorem b1f {P : Program} {e : TypeId} {os : a4g} (xs : List D) : (c4m P e os xs).Pairwise fun x y => leO (d1W P e os) x y = true := by
 have := List.pairwise_mergeSort (le := leO (d1W P e os)) (fun a b d => b9r (a7F os) a b d) (fun a b => c69 (a7F os) a b) xs
 exact this
theorem a5n {l : List D} {f : D → List UInt8} {c : D → D → Int} (hp : l.Pairwise fun x y => f x ≠ f y) (hc : ∀ x y, c x y = 0 → f x = f y) : ∀ x ∈ l, ∀ y ∈ l, c x y = 0 → x = y := by
 induction l with
 | nil => intro x hx; cases hx
 | cons a l ih =>
  rw [List.pairwise_cons] at hp
  intro x hx y hy h
  have e := hc x y h
  rcases f59.1 hx with hx1 | hx1
  ·rcases f59.1 hy with hy1 | hy1
   ·rw [hx1, hy1]
   ·rw [hx1] at e; exact absurd e (hp.1 y hy1)
  ·rcases f59.1 hy with hy1 | hy1
   ·rw [hy1] at e; exact absurd e.symm (hp.1 x hx1)
   ·exact ih hp.2 x hx1 y hy1 h
def cR (x y : D) : Int := lex (Lib.compareInt (x.cell 2).toI (y.cell 2).toI) (lex (Lib.compareBytes (nmD x) (nmD y)) 0)
theorem d34 : a8G cR := a4f (a1w b35 fun x : D => (x.cell 2).toI) (a4f (a1w a6q fun x : D => nmD x) b0A)
theorem c4r {x y : D} (h : cR x y = 0) : nmD x = nmD y := by
 unfold cR lex at h
 refine a3l _ _ ?_
 split at h
 ·split at h <;> assumption
 ·omega
def e9f (x y : D) : Bool := decide ((x.cell 2).toI < (y.cell 2).toI) || ((x.cell 2).toI == (y.cell 2).toI && Op.bytesLess (nmD x) (nmD y))
theorem e3K (x y : D) : e9f x y = true ↔ cR x y < 0 := by
 unfold e9f cR
 rw [Bool.or_eq_true, f5U, a5w, decide_eq_true_eq, beq_iff_eq]
 generalize Lib.compareBytes (nmD x) (nmD y) = n
 generalize (x.cell 2).toI = a
 generalize (y.cell 2).toI = b
 simp only [lex, Lib.compareInt]
 by_cases p : a < b
 ·simp [p]
 ·by_cases q : a > b
  ·have : ¬ a = b := by omega
   simp [p, q, this]
  ·have e : a = b := by omega
   subst e
   simp
   by_cases hn : n = 0 <;> simp [hn]
def b9v (x : D) : D := .a [.s (x.cell 0).toS, .i (x.cell 1).toI, .i (x.cell 2).toI, .i (x.cell 3).toI, .i (x.cell 4).toI, .i (x.cell 5).toI, .i (x.cell 6).toI, .l (x.cell 7).isNil (x.cell 7).items]
theorem d93 {n : Nat} (h : n ≤ 5000) : (decide ((n + 1) * 88 ≤ b1h) && decide ((n + 1) ≤ a0U)) = true := by
 have h1 : b1h = 140737488355328 := rfl
 have h2 : a0U = 9223372036854775807 := rfl
 rw [f5U, decide_eq_true_eq, decide_eq_true_eq]; omega
theorem e8S {n : Nat} (h : n ≤ 5000) : (decide ((0 + n) * 88 ≤ b1h) && decide ((0 + n) ≤ a0U)) = true := by
 have h1 : b1h = 140737488355328 := rfl
 have h2 : a0U = 9223372036854775807 := rfl
 rw [f5U, decide_eq_true_eq, decide_eq_true_eq]; omega
theorem d94 (rc : a1c) (a b : List D) : b3K N rc a b = some (match a, b with | _, [] => true | x :: _, y :: _ => e9f x y | [], _ :: _ => false) := by
 unfold b3K b0s
 match a, b with
 | [], [] => rfl
 | _ :: _, [] => rfl
 | [], y :: b => rfl
 | x :: a, y :: b =>
  have h1 : (((y :: b).length : Int) == 0) = false := by simp <;> omega
  have h2 : decide (((x :: a).length : Int) > 0) = true := by simp <;> omega
  have h3 : inB 0 (x :: a).length = true := a1u (by omega) (by simp <;> omega)
  have h4 : inB 0 (y :: b).length = true := a1u (by omega) (by simp <;> omega)
  rw [h1, h2, h3, h4]
  unfold e9f
  simp only [a0s, f5W, f5X, List.getD_cons_zero]
  cases decide ((x.cell 2).toI < (y.cell 2).toI) with
  | true => rfl
  | false =>
   cases (x.cell 2).toI == (y.cell 2).toI with
   | true => rfl
   | false => rfl
theorem f3T {x : D} {a out : List D} (rc : a1c) (b : List D) (hx : b9v x = x) (hn : out.length ≤ 5000) : a3H N rc (x :: a) b true out = some (.inl (a, out ++ [x])) := by
 unfold a3H a4A
 have h3 : inB 0 (x :: a).length = true := a1u (by omega) (by simp <;> omega)
 have h4 : decide (1 ≤ ((x :: a).length : Int)) = true := by simp <;> omega
 have h5 : decide (((x :: a).length : Int) ≤ ((x :: a).length : Int)) = true := by simp
 rw [h3, d93 hn, h4, h5]
 simp only [f5W, a0s, List.getD_cons_zero, Bool.and_true]
 have : (((x :: a).take ((x :: a).length : Int).toNat).drop 1) = a := by simp
 rw [this]
 unfold b9v at hx
 rw [hx]
theorem f3U {y : D} {b out : List D} (rc : a1c) (a : List D) (hx : b9v y = y) (hn : out.length ≤ 5000) : a3H N rc a (y :: b) false out = some (.inr (b, out ++ [y])) := by
 unfold a3H a4A
 have h3 : inB 0 (y :: b).length = true := a1u (by omega) (by simp <;> omega)
 have h4 : decide (1 ≤ ((y :: b).length : Int)) = true := by simp <;> omega
 have h5 : decide (((y :: b).length : Int) ≤ ((y :: b).length : Int)) = true := by simp
 rw [h3, d93 hn, h4, h5]
 simp only [f5W, f5X, a0s, List.getD_cons_zero, Bool.and_true]
 have : (((y :: b).take ((y :: b).length : Int).toNat).drop 1) = b := by simp
 rw [this]
 unfold b9v at hx
 rw [hx]
theorem e3L (hN : maxLen < N) (rc : a1c) {a b : List D} (ha : ∀ x ∈ a, b9v x = x) (hb : ∀ x ∈ b, b9v x = x) (hl : a.length + b.length ≤ 5000) (hap : ∀ x ∈ a, ∀ y ∈ b, cR x y ≠ 0) :
  ∃ nl, c30 N rc a b true [] = some (nl, a.merge b (leO cR)) := by
 have hm : maxLen = 9223372036854775807 := rfl
 have := a1P (A := List D × List D × Bool × List D) (S := fun t kr => b3N N rc t.1 t.2.1 t.2.2.1 t.2.2.2 (fun a b f o => kr (a, b, f, o)) _) (L := fun f t => b7g N rc f t.1 t.2.1 t.2.2.1 t.2.2.2 (fun p => some p)) (fun f t => rfl)
  (fun t X => ∃ nl, X = some (nl, t.2.2.2 ++ t.1.merge t.2.1 (leO cR)))
  (fun t => (∀ x ∈ t.1, b9v x = x) ∧ (∀ x ∈ t.2.1, b9v x = x) ∧ t.1.length + t.2.1.length + t.2.2.2.length ≤ 5000 ∧ ∀ x ∈ t.1, ∀ y ∈ t.2.1, cR x y ≠ 0) (fun t => t.1.length + t.2.1.length) (fun ⟨a, b, f, o⟩ kr ⟨h1, h2, h3, h4⟩ ih => by
   simp only at h1 h2 h3 h4 ⊢
   simp only [b3N, a0s, d94]
   match a, b with
   | [], [] => exact ⟨f, by simp⟩
   | x :: a, [] =>
    simp only [List.length_cons, List.length_nil] at h3
    have e : (bif decide (((x :: a).length : Int) > 0) then true else decide ((([] : List D).length : Int) > 0)) = true := by
     rw [decide_eq_true (by simp <;> omega)]; rfl
    rw [e]
    simp only [f5W, f52, getD_some]
    rw [f3T rc [] (h1 x (by simp)) (by omega)]
    simp only [b6k, c2c, f5W]
    obtain ⟨nl, hk⟩ := ih (a, [], false, o ++ [x]) ⟨fun y hy => h1 y (by simp [hy]), by simp, by simp <;> omega, by simp⟩ (by simp)
    refine ⟨nl, hk.trans ?_⟩
    simp
   | [], y :: b =>
    simp only [List.length_cons, List.length_nil] at h3
    have e : (bif decide ((([] : List D).length : Int) > 0) then true else decide (((y :: b).length : Int) > 0)) = true := by
     rw [decide_eq_true (p := ((y :: b).length : Int) > 0) (by simp <;> omega)]; rfl
    rw [e]
    simp only [f5W, f52, getD_some]
    rw [f3U rc [] (h2 y (by simp)) (by omega)]
    simp only [a9V, a9W, f5W, f5X, f52, getD_some]
    obtain ⟨nl, hk⟩ := ih ([], b, false, o ++ [y]) ⟨by simp, fun z hz => h2 z (by simp [hz]), by simp <;> omega, by simp⟩ (by simp)
    refine ⟨nl, hk.trans ?_⟩
    simp
   | x :: a, y :: b =>
    simp only [List.length_cons] at h3
    have e : (bif decide (((x :: a).length : Int) > 0) then true else decide (((y :: b).length : Int) > 0)) = true := by
     rw [decide_eq_true (by simp <;> omega)]; rfl
    have hne := h4 x (by simp) y (by simp)
    have hbl : e9f x y = leO cR x y := by
     rw [Bool.eq_iff_iff, e3K, a9G d34]; omega
    rw [e]
    simp only [f5W, f52, getD_some]
    cases hc : e9f x y with
    | true =>
     rw [f3T rc _ (h1 x (by simp)) (by omega)]
     simp only [b6k, c2c, f5W]
     obtain ⟨nl, hk⟩ := ih (a, y :: b, false, o ++ [x]) ⟨fun z hz => h1 z (by simp [hz]), h2, by simp <;> omega, fun z hz => h4 z (by simp [hz])⟩ (by simp)
     refine ⟨nl, hk.trans ?_⟩
     rw [hc] at hbl
     rw [List.cons_merge_cons, ← hbl]
     simp
    | false =>
     rw [f3U rc _ (h2 y (by simp)) (by omega)]
     simp only [a9V, a9W, f5W, f5X, f52, getD_some]
     obtain ⟨nl, hk⟩ := ih (x :: a, b, false, o ++ [y]) ⟨h1, fun z hz => h2 z (by simp [hz]), by simp <;> omega, fun z hz w hw => h4 z hz w (by simp [hw])⟩ (by simp)
     refine ⟨nl, hk.trans ?_⟩
     rw [hc] at hbl
     rw [List.cons_merge_cons, ← hbl]
     simp) N (a, b, true, []) ⟨ha, hb, by simpa using hl, hap⟩ (by simp only; omega)
 obtain ⟨nl, h⟩ := this
 exact ⟨nl, by simpa [c30] using h⟩
theorem b4W (hN : maxLen < N) : ∀ (m : Nat) (f : Bool) (l : List D), l.length < m → l.length ≤ 5000 → (∀ x ∈ l, b9v x = x) → (l.Pairwise fun x y => nmD x ≠ nmD y) →
  ∃ nl r, c31 N m f l = some (nl, r) ∧ r.Perm l ∧ r.Pairwise fun x y => leO cR x y = true
 | 0, _, _, h, _, _, _ => by omega
 | m + 1, f, l, h, h5, hx, hp => by
  have hm : maxLen = 9223372036854775807 := rfl
  show ∃ nl r, d3H N (c31 N m) f l = some (nl, r) ∧ _
  unfold d3H d8Q
  by_cases h2 : (l.length : Int) < 2
  ·rw [decide_eq_true h2, e8S h5]
   refine ⟨_, l, rfl, List.Perm.refl l, ?_⟩
   match l, h2 with
   | [], _ => exact .nil
   | [x], _ => simp
   | _ :: _ :: _, h2 => simp at h2; omega
  ·have hd : IntKind.wrap .i64 ((l.length : Int).tdiv 2) = ((l.length / 2 : Nat) : Int) := by
    rw [a1g] <;> rw [Int.tdiv_eq_ediv_of_nonneg (by omega)] <;> omega
   have hq : l.length / 2 ≤ l.length := Nat.div_le_self _ _
   rw [decide_eq_false h2, hd]
   have b1 : decide (0 ≤ ((l.length / 2 : Nat) : Int)) = true := decide_eq_true (by omega)
   have b2 : decide (((l.length / 2 : Nat) : Int) ≤ (l.length : Int)) = true := decide_eq_true (by omega)
   have b3 : decide ((l.length : Int) ≤ (l.length : Int)) = true := by simp
   rw [b1, b2, b3]
   simp only [Bool.and_true, f5W, f5X, a0s, Int.toNat_natCast, List.drop_zero, List.take_length]
   have s1 : (l.take (l.length / 2)).length = l.length / 2 := by rw [List.length_take]; omega
   have s2 : (l.drop (l.length / 2)).length = l.length - l.length / 2 := List.length_drop ..
   have hsub : (l.take (l.length / 2) ++ l.drop (l.length / 2)) = l := List.take_append_drop ..
   have hp' := hp
   rw [← hsub, List.pairwise_append] at hp'
   obtain ⟨p1, p2, p3⟩ := hp'
   obtain ⟨n1, r1, e1, q1, o1⟩ := b4W hN m f (l.take (l.length / 2)) (by omega) (by omega) (fun x h => hx x (List.mem_of_mem_take h)) p1
   obtain ⟨n2, r2, e2, q2, o2⟩ := b4W hN m f (l.drop (l.length / 2)) (by omega) (by omega) (fun x h => hx x (List.mem_of_mem_drop h)) p2
   rw [e1, e2]
   simp only [f52, f5W, getD_some]
   obtain ⟨nl, e3⟩ := e3L hN (c31 N m) (a := r1) (b := r2) (fun x h => hx x (List.mem_of_mem_take (q1.mem_iff.1 h))) (fun x h => hx x (List.mem_of_mem_drop (q2.mem_iff.1 h))) (by rw [q1.length_eq, q2.length_eq]; omega)
    (fun x h y h' hc => p3 x (q1.mem_iff.1 h) y (q2.mem_iff.1 h') (c4r hc))
   rw [e3]
   refine ⟨nl, _, rfl, ?_, ?_⟩
   ·refine (List.merge_perm_append (xs := r1) (ys := r2) _).trans ((q1.append q2).trans ?_)
    rw [hsub]
   ·exact List.pairwise_merge (b9r d34) (c69 d34) r1 r2 o1 o2
end Go.Proofs.YtfkkcdapcgimlaaGreatDoor

namespace Go.Proofs.YtfkkcdapcgimlaaGreatDoor
open Go Go.AM
set_option maxRecDepth 100000
set_option maxHeartbeats 4000000
variable {N : Nat}
noncomputable abbrev a3Q (N : Nat) (b x : D) : Option Bool := a8F N N (b.cell 4).toI (b.cell 5).toI (b.cell 6).toI (b.cell 7).toI (b.cell 8).toS (b.cell 9).isNil (b.cell 9).items (x.cell 0).toS (x.cell 1).toI (x.cell 2).toI (x.cell 3).toI (x.cell 4).toI (x.cell 5).toI (x.cell 6).toI (x.cell 7).isNil (x.cell 7).items
noncomputable abbrev d16 (N : Nat) (b x : D) : Option Bool := b95 N N (b.cell 4).toI (b.cell 5).toI (b.cell 6).toI (b.cell 7).toI (b.cell 8).toS (b.cell 9).isNil (b.cell 9).items (x.cell 0).toS (x.cell 1).toI (x.cell 2).toI (x.cell 3).toI (x.cell 4).toI (x.cell 5).toI (x.cell 6).toI (x.cell 7).isNil (x.cell 7).items
noncomputable def hbD (N : Nat) (b x : D) : Bool := (a3Q N b x).getD false
theorem c7a (hN : maxLen < N) {b x : D} (hb : a8j b) (hk : c9q N b) (hx : b4T x) (h0 : d15 x = 0) : a3Q N b x = some (hbD N b x) ∧ d16 N b x = some (hbD N b x) := by
 have hm : maxLen = 9223372036854775807 := rfl
 have hn := d91 h0
 have hM := hb.size
 obtain ⟨e', f1, f2, f3⟩ := a7G hN N (a3k (b.cell 9).items + 1) (b.cell 4).toI (b.cell 5).toI (b.cell 6).toI (b.cell 7).toI (b.cell 8).toS (b.cell 9).isNil (b.cell 9).items 0 (by omega) (by omega) hM hb.text (by omega) (by omega)
 obtain ⟨e'', g1, g2, _⟩ := a7G hN N N (b.cell 4).toI (b.cell 5).toI (b.cell 6).toI (b.cell 7).toI (b.cell 8).toS (b.cell 9).isNil (b.cell 9).items 0 (by omega) (by omega) hM hb.text (by omega) (by omega)
 rw [hk.cond] at g2
 have hz : e' = 0 := by rw [f1] at g1; rw [Option.some.inj g1, ← Option.some.inj g2]
 subst hz
 obtain ⟨c, b1, b2⟩ := c66 (v7 := (x.cell 0).toS) (v15 := (x.cell 7).items) (v8 := (x.cell 1).toI) (v9 := (x.cell 2).toI) (v10 := (x.cell 3).toI) (v11 := (x.cell 4).toI) (v12 := (x.cell 5).toI) (v13 := (x.cell 6).toI) (v14 := (x.cell 7).isNil) hN (by omega) hx.tags N N (b.cell 4).toI (b.cell 5).toI (b.cell 6).toI (b.cell 7).toI (b.cell 8).toS (b.cell 9).isNil (b.cell 9).items 0 (by omega) (by omega) hM hb.text (by omega) (by omega) f2
 have e : hbD N b x = c := by unfold hbD a3Q; rw [b1]; rfl
 rw [e]
 exact ⟨b1, b2⟩
def a5e (x : D) : Int := IntKind.wrap .i64 ((x.cell 2).toI.tdiv 86400)
def f5H (x : D) : Ty1 := ((x.cell 0).toS, (x.cell 1).toI, (x.cell 2).toI, (x.cell 3).toI, (x.cell 4).toI, (x.cell 5).toI, (x.cell 6).toI, (x.cell 7).isNil, (x.cell 7).items)
def b4X : Option D → Option (Sum Ty1 Unit)
 | some x => some (.inl (f5H x))
 | none => some (.inr ())
def e9g : Option D → Ty0
 | some x => ((x.cell 0).toS, (x.cell 1).toI, (x.cell 2).toI, (x.cell 3).toI, (x.cell 4).toI, (x.cell 5).toI, (x.cell 6).toI, (x.cell 7).isNil, (x.cell 7).items, true)
 | none => ([], 0, 0, 0, 0, 0, 0, true, [], false)
def a1b (k fv h l d : Int) : Int × Int := bif k == 3 then (fv, l) else bif k == 4 then (bif d == l then h else bif (bif decide (l ≥ 0) then d == IntKind.wrap .i64 (l + 1) else false) then IntKind.wrap .i64 (h + 1) else 1, d) else (IntKind.wrap .i64 (h + fv), l)
def goP (hb : D → Bool) (fv : D → Int) (k n : Int) : Int → Int → List D → Option D
 | _, _, [] => none
 | h, l, x :: r => bif !hb x then goP hb fv k n h l r else bif decide ((a1b k (fv x) h l (a5e x)).1 ≥ n) then some x else goP hb fv k n (a1b k (fv x) h l (a5e x)).1 (a1b k (fv x) h l (a5e x)).2 r
theorem st0 (h l d k : Int) : a1O N h l d k (k == 3) = a1b k (1) h l d := by
 unfold a1b a1O a1N a2Q a1M a2y a1v a2x a1a
 simp only [a0s]
theorem f5f (hN : maxLen < N) {b : D} {l : List D} (hl : l.length ≤ maxLen) (hb : ∀ x ∈ l, a3Q N b x = some (hbD N b x)) :
  a42 N l (l.length : Int) (b.cell 1).toI (b.cell 3).toI (b.cell 4).toI (b.cell 5).toI (b.cell 6).toI (b.cell 7).toI (b.cell 8).toS (b.cell 9).isNil (b.cell 9).items 0 (-1) 0 = b4X (goP (hbD N b) (fun x => 1) (b.cell 1).toI (b.cell 3).toI 0 (-1) l) := by
 have hm : maxLen = 9223372036854775807 := rfl
 unfold a42
 have := a3Z (A := Int × Int × Int) (S := fun a kr => a1F N l (l.length : Int) (b.cell 1).toI (b.cell 3).toI (b.cell 4).toI (b.cell 5).toI (b.cell 6).toI (b.cell 7).toI (b.cell 8).toS (b.cell 9).isNil (b.cell 9).items a.1 a.2.1 a.2.2 (fun x y z => kr (x, y, z)) _ _) (L := fun f a => a3C N l (l.length : Int) (b.cell 1).toI (b.cell 3).toI (b.cell 4).toI (b.cell 5).toI (b.cell 6).toI (b.cell 7).toI (b.cell 8).toS (b.cell 9).isNil (b.cell 9).items f a.1 a.2.1 a.2.2 (fun p => some (Sum.inl p)) (fun p => some (Sum.inr p))) (fun f a => rfl)
  (fun a => b4X (goP (hbD N b) (fun x => 1) (b.cell 1).toI (b.cell 3).toI a.1 a.2.1 (l.drop a.2.2.toNat))) (fun a => 0 ≤ a.2.2 ∧ a.2.2 ≤ l.length) (fun a => (l.length - a.2.2).toNat) (fun ⟨h, la, w⟩ kr ⟨h0, h1⟩ ih => by
   simp only at h0 h1 ⊢
   by_cases hw : w < l.length
   ·have hd := a2w (.i 0 : D) h0 hw
    have hx := hb _ (a02 h0 hw)
    unfold a3Q at hx
    rw [hd]
    simp only [a1F, decide_eq_true hw, f5W, a1u h0 hw, a0s]
    rw [hx, a1g (x := w + 1) (by omega) (by omega)]
    simp only [f52, f5W, getD_some, st0, goP]
    cases hbD N b (l.getD w.toNat (.i 0)) with
    | false => exact ih (h, la, w + 1) ⟨by simp only; omega, by simp only; omega⟩ (by simp only; omega)
    | true =>
     simp only [Bool.not_true, f5X]
     unfold a5e
     cases hc : decide ((a1b (b.cell 1).toI _ h la _).1 ≥ (b.cell 3).toI) with
     | true => rfl
     | false => exact ih (_, _, w + 1) ⟨by simp only; omega, by simp only; omega⟩ (by simp only; omega)
   ·rw [a1y hw]
    simp [a1F, hw, goP, b4X]) N (0, -1, 0) ⟨by simp, by simp⟩ (by simp only; omega)
 simpa using this
theorem st1 (h l d k a : Int) : a5Z N h l d k (k == 3) a = a1b k (a) h l d := by
 unfold a1b a5Z a5Y a73 a5X a6E a4O a6D a3M
 simp only [a0s]
theorem f5g (hN : maxLen < N) {b : D} {l : List D} (hl : l.length ≤ maxLen) (hb : ∀ x ∈ l, a3Q N b x = some (hbD N b x)) :
  b8Q N l (l.length : Int) (b.cell 1).toI (b.cell 3).toI (b.cell 4).toI (b.cell 5).toI (b.cell 6).toI (b.cell 7).toI (b.cell 8).toS (b.cell 9).isNil (b.cell 9).items 0 (-1) 0 = b4X (goP (hbD N b) (fun x => (x.cell 2).toI) (b.cell 1).toI (b.cell 3).toI 0 (-1) l) := by
 have hm : maxLen = 9223372036854775807 := rfl
 unfold b8Q
 have := a3Z (A := Int × Int × Int) (S := fun a kr => a7p N l (l.length : Int) (b.cell 1).toI (b.cell 3).toI (b.cell 4).toI (b.cell 5).toI (b.cell 6).toI (b.cell 7).toI (b.cell 8).toS (b.cell 9).isNil (b.cell 9).items a.1 a.2.1 a.2.2 (fun x y z => kr (x, y, z)) _ _) (L := fun f a => b20 N l (l.length : Int) (b.cell 1).toI (b.cell 3).toI (b.cell 4).toI (b.cell 5).toI (b.cell 6).toI (b.cell 7).toI (b.cell 8).toS (b.cell 9).isNil (b.cell 9).items f a.1 a.2.1 a.2.2 (fun p => some (Sum.inl p)) (fun p => some (Sum.inr p))) (fun f a => rfl)
  (fun a => b4X (goP (hbD N b) (fun x => (x.cell 2).toI) (b.cell 1).toI (b.cell 3).toI a.1 a.2.1 (l.drop a.2.2.toNat))) (fun a => 0 ≤ a.2.2 ∧ a.2.2 ≤ l.length) (fun a => (l.length - a.2.2).toNat) (fun ⟨h, la, w⟩ kr ⟨h0, h1⟩ ih => by
   simp only at h0 h1 ⊢
   by_cases hw : w < l.length
   ·have hd := a2w (.i 0 : D) h0 hw
    have hx := hb _ (a02 h0 hw)
    unfold a3Q at hx
    rw [hd]
    simp only [a7p, decide_eq_true hw, f5W, a1u h0 hw, a0s]
    rw [hx, a1g (x := w + 1) (by omega) (by omega)]
    simp only [f52, f5W, getD_some, st1, goP]
    cases hbD N b (l.getD w.toNat (.i 0)) with
    | false => exact ih (h, la, w + 1) ⟨by simp only; omega, by simp only; omega⟩ (by simp only; omega)
    | true =>
     simp only [Bool.not_true, f5X]
     unfold a5e
     cases hc : decide ((a1b (b.cell 1).toI _ h la _).1 ≥ (b.cell 3).toI) with
     | true => rfl
     | false => exact ih (_, _, w + 1) ⟨by simp only; omega, by simp only; omega⟩ (by simp only; omega)
   ·rw [a1y hw]
    simp [a7p, hw, goP, b4X]) N (0, -1, 0) ⟨by simp, by simp⟩ (by simp only; omega)
 simpa using this
theorem st2 (h l d k a : Int) : a4R N h l d k (k == 3) a = a1b k (IntKind.wrap .i64 (a.tdiv 86400)) h l d := by
 unfold a1b a4R a4Q a6F a4P a5q a33 a5p a3e c6g c02
 simp only [a0s]
theorem f5h (hN : maxLen < N) {b : D} {l : List D} (hl : l.length ≤ maxLen) (hb : ∀ x ∈ l, a3Q N b x = some (hbD N b x)) :
  b4y N l (l.length : Int) (b.cell 1).toI (b.cell 3).toI (b.cell 4).toI (b.cell 5).toI (b.cell 6).toI (b.cell 7).toI (b.cell 8).toS (b.cell 9).isNil (b.cell 9).items 0 (-1) 0 = b4X (goP (hbD N b) (fun x => IntKind.wrap .i64 ((x.cell 2).toI.tdiv 86400)) (b.cell 1).toI (b.cell 3).toI 0 (-1) l) := by
 have hm : maxLen = 9223372036854775807 := rfl
 unfold b4y
 have := a3Z (A := Int × Int × Int) (S := fun a kr => a5D N l (l.length : Int) (b.cell 1).toI (b.cell 3).toI (b.cell 4).toI (b.cell 5).toI (b.cell 6).toI (b.cell 7).toI (b.cell 8).toS (b.cell 9).isNil (b.cell 9).items a.1 a.2.1 a.2.2 (fun x y z => kr (x, y, z)) _ _) (L := fun f a => b0g N l (l.length : Int) (b.cell 1).toI (b.cell 3).toI (b.cell 4).toI (b.cell 5).toI (b.cell 6).toI (b.cell 7).toI (b.cell 8).toS (b.cell 9).isNil (b.cell 9).items f a.1 a.2.1 a.2.2 (fun p => some (Sum.inl p)) (fun p => some (Sum.inr p))) (fun f a => rfl)
  (fun a => b4X (goP (hbD N b) (fun x => IntKind.wrap .i64 ((x.cell 2).toI.tdiv 86400)) (b.cell 1).toI (b.cell 3).toI a.1 a.2.1 (l.drop a.2.2.toNat))) (fun a => 0 ≤ a.2.2 ∧ a.2.2 ≤ l.length) (fun a => (l.length - a.2.2).toNat) (fun ⟨h, la, w⟩ kr ⟨h0, h1⟩ ih => by
   simp only at h0 h1 ⊢
   by_cases hw : w < l.length
   ·have hd := a2w (.i 0 : D) h0 hw
    have hx := hb _ (a02 h0 hw)
    unfold a3Q at hx
    rw [hd]
    simp only [a5D, decide_eq_true hw, f5W, a1u h0 hw, a0s]
    rw [hx, a1g (x := w + 1) (by omega) (by omega)]
    simp only [f52, f5W, getD_some, st2, goP]
    cases hbD N b (l.getD w.toNat (.i 0)) with
    | false => exact ih (h, la, w + 1) ⟨by simp only; omega, by simp only; omega⟩ (by simp only; omega)
    | true =>
     simp only [Bool.not_true, f5X]
     unfold a5e
     cases hc : decide ((a1b (b.cell 1).toI _ h la _).1 ≥ (b.cell 3).toI) with
     | true => rfl
     | false => exact ih (_, _, w + 1) ⟨by simp only; omega, by simp only; omega⟩ (by simp only; omega)
   ·rw [a1y hw]
    simp [a5D, hw, goP, b4X]) N (0, -1, 0) ⟨by simp, by simp⟩ (by simp only; omega)
 simpa using this
theorem st3 (h l d k a : Int) : a36 N h l d k (k == 3) a = a1b k (a) h l d := by
 unfold a1b a36 a35 a5r a34 a4D a3q a4C a2H
 simp only [a0s]
theorem f5i (hN : maxLen < N) {b : D} {l : List D} (hl : l.length ≤ maxLen) (hb : ∀ x ∈ l, a3Q N b x = some (hbD N b x)) :
  b1G N l (l.length : Int) (b.cell 1).toI (b.cell 3).toI (b.cell 4).toI (b.cell 5).toI (b.cell 6).toI (b.cell 7).toI (b.cell 8).toS (b.cell 9).isNil (b.cell 9).items 0 (-1) 0 = b4X (goP (hbD N b) (fun x => (x.cell 3).toI) (b.cell 1).toI (b.cell 3).toI 0 (-1) l) := by
 have hm : maxLen = 9223372036854775807 := rfl
 unfold b1G
 have := a3Z (A := Int × Int × Int) (S := fun a kr => a4y N l (l.length : Int) (b.cell 1).toI (b.cell 3).toI (b.cell 4).toI (b.cell 5).toI (b.cell 6).toI (b.cell 7).toI (b.cell 8).toS (b.cell 9).isNil (b.cell 9).items a.1 a.2.1 a.2.2 (fun x y z => kr (x, y, z)) _ _) (L := fun f a => a74 N l (l.length : Int) (b.cell 1).toI (b.cell 3).toI (b.cell 4).toI (b.cell 5).toI (b.cell 6).toI (b.cell 7).toI (b.cell 8).toS (b.cell 9).isNil (b.cell 9).items f a.1 a.2.1 a.2.2 (fun p => some (Sum.inl p)) (fun p => some (Sum.inr p))) (fun f a => rfl)
  (fun a => b4X (goP (hbD N b) (fun x => (x.cell 3).toI) (b.cell 1).toI (b.cell 3).toI a.1 a.2.1 (l.drop a.2.2.toNat))) (fun a => 0 ≤ a.2.2 ∧ a.2.2 ≤ l.length) (fun a => (l.length - a.2.2).toNat) (fun ⟨h, la, w⟩ kr ⟨h0, h1⟩ ih => by
   simp only at h0 h1 ⊢
   by_cases hw : w < l.length
   ·have hd := a2w (.i 0 : D) h0 hw
    have hx := hb _ (a02 h0 hw)
    unfold a3Q at hx
    rw [hd]
    simp only [a4y, decide_eq_true hw, f5W, a1u h0 hw, a0s]
    rw [hx, a1g (x := w + 1) (by omega) (by omega)]
    simp only [f52, f5W, getD_some, st3, goP]
    cases hbD N b (l.getD w.toNat (.i 0)) with
    | false => exact ih (h, la, w + 1) ⟨by simp only; omega, by simp only; omega⟩ (by simp only; omega)
    | true =>
     simp only [Bool.not_true, f5X]
     unfold a5e
     cases hc : decide ((a1b (b.cell 1).toI _ h la _).1 ≥ (b.cell 3).toI) with
     | true => rfl
     | false => exact ih (_, _, w + 1) ⟨by simp only; omega, by simp only; omega⟩ (by simp only; omega)
   ·rw [a1y hw]
    simp [a4y, hw, goP, b4X]) N (0, -1, 0) ⟨by simp, by simp⟩ (by simp only; omega)
 simpa using this
theorem st4 (h l d k a : Int) : a3t N h l d k (k == 3) a = a1b k (a) h l d := by
 unfold a1b a3t a3s a4E a3r a4a a2X a38 a1X
 simp only [a0s]
theorem f5j (hN : maxLen < N) {b : D} {l : List D} (hl : l.length ≤ maxLen) (hb : ∀ x ∈ l, a3Q N b x = some (hbD N b x)) :
  a9o N l (l.length : Int) (b.cell 1).toI (b.cell 3).toI (b.cell 4).toI (b.cell 5).toI (b.cell 6).toI (b.cell 7).toI (b.cell 8).toS (b.cell 9).isNil (b.cell 9).items 0 (-1) 0 = b4X (goP (hbD N b) (fun x => (x.cell 4).toI) (b.cell 1).toI (b.cell 3).toI 0 (-1) l) := by
 have hm : maxLen = 9223372036854775807 := rfl
 unfold a9o
 have := a3Z (A := Int × Int × Int) (S := fun a kr => a3O N l (l.length : Int) (b.cell 1).toI (b.cell 3).toI (b.cell 4).toI (b.cell 5).toI (b.cell 6).toI (b.cell 7).toI (b.cell 8).toS (b.cell 9).isNil (b.cell 9).items a.1 a.2.1 a.2.2 (fun x y z => kr (x, y, z)) _ _) (L := fun f a => a6G N l (l.length : Int) (b.cell 1).toI (b.cell 3).toI (b.cell 4).toI (b.cell 5).toI (b.cell 6).toI (b.cell 7).toI (b.cell 8).toS (b.cell 9).isNil (b.cell 9).items f a.1 a.2.1 a.2.2 (fun p => some (Sum.inl p)) (fun p => some (Sum.inr p))) (fun f a => rfl)
  (fun a => b4X (goP (hbD N b) (fun x => (x.cell 4).toI) (b.cell 1).toI (b.cell 3).toI a.1 a.2.1 (l.drop a.2.2.toNat))) (fun a => 0 ≤ a.2.2 ∧ a.2.2 ≤ l.length) (fun a => (l.length - a.2.2).toNat) (fun ⟨h, la, w⟩ kr ⟨h0, h1⟩ ih => by
   simp only at h0 h1 ⊢
   by_cases hw : w < l.length
   ·have hd := a2w (.i 0 : D) h0 hw
    have hx := hb _ (a02 h0 hw)
    unfold a3Q at hx
    rw [hd]
    simp only [a3O, decide_eq_true hw, f5W, a1u h0 hw, a0s]
    rw [hx, a1g (x := w + 1) (by omega) (by omega)]
    simp only [f52, f5W, getD_some, st4, goP]
    cases hbD N b (l.getD w.toNat (.i 0)) with
    | false => exact ih (h, la, w + 1) ⟨by simp only; omega, by simp only; omega⟩ (by simp only; omega)
    | true =>
     simp only [Bool.not_true, f5X]
     unfold a5e
     cases hc : decide ((a1b (b.cell 1).toI _ h la _).1 ≥ (b.cell 3).toI) with
     | true => rfl
     | false => exact ih (_, _, w + 1) ⟨by simp only; omega, by simp only; omega⟩ (by simp only; omega)
   ·rw [a1y hw]
    simp [a3O, hw, goP, b4X]) N (0, -1, 0) ⟨by simp, by simp⟩ (by simp only; omega)
 simpa using this
theorem st5 (h l d k a : Int) : a3a N h l d k (k == 3) a = a1b k (a) h l d := by
 unfold a1b a3a a2Z a4b a2Y a3A a2C a3z a1D
 simp only [a0s]
theorem f5k (hN : maxLen < N) {b : D} {l : List D} (hl : l.length ≤ maxLen) (hb : ∀ x ∈ l, a3Q N b x = some (hbD N b x)) :
  a79 N l (l.length : Int) (b.cell 1).toI (b.cell 3).toI (b.cell 4).toI (b.cell 5).toI (b.cell 6).toI (b.cell 7).toI (b.cell 8).toS (b.cell 9).isNil (b.cell 9).items 0 (-1) 0 = b4X (goP (hbD N b) (fun x => (x.cell 5).toI) (b.cell 1).toI (b.cell 3).toI 0 (-1) l) := by
 have hm : maxLen = 9223372036854775807 := rfl
 unfold a79
 have := a3Z (A := Int × Int × Int) (S := fun a kr => a3g N l (l.length : Int) (b.cell 1).toI (b.cell 3).toI (b.cell 4).toI (b.cell 5).toI (b.cell 6).toI (b.cell 7).toI (b.cell 8).toS (b.cell 9).isNil (b.cell 9).items a.1 a.2.1 a.2.2 (fun x y z => kr (x, y, z)) _ _) (L := fun f a => a5s N l (l.length : Int) (b.cell 1).toI (b.cell 3).toI (b.cell 4).toI (b.cell 5).toI (b.cell 6).toI (b.cell 7).toI (b.cell 8).toS (b.cell 9).isNil (b.cell 9).items f a.1 a.2.1 a.2.2 (fun p => some (Sum.inl p)) (fun p => some (Sum.inr p))) (fun f a => rfl)
  (fun a => b4X (goP (hbD N b) (fun x => (x.cell 5).toI) (b.cell 1).toI (b.cell 3).toI a.1 a.2.1 (l.drop a.2.2.toNat))) (fun a => 0 ≤ a.2.2 ∧ a.2.2 ≤ l.length) (fun a => (l.length - a.2.2).toNat) (fun ⟨h, la, w⟩ kr ⟨h0, h1⟩ ih => by
   simp only at h0 h1 ⊢
   by_cases hw : w < l.length
   ·have hd := a2w (.i 0 : D) h0 hw
    have hx := hb _ (a02 h0 hw)
    unfold a3Q at hx
    rw [hd]
    simp only [a3g, decide_eq_true hw, f5W, a1u h0 hw, a0s]
    rw [hx, a1g (x := w + 1) (by omega) (by omega)]
    simp only [f52, f5W, getD_some, st5, goP]
    cases hbD N b (l.getD w.toNat (.i 0)) with
    | false => exact ih (h, la, w + 1) ⟨by simp only; omega, by simp only; omega⟩ (by simp only; omega)
    | true =>
     simp only [Bool.not_true, f5X]
     unfold a5e
     cases hc : decide ((a1b (b.cell 1).toI _ h la _).1 ≥ (b.cell 3).toI) with
     | true => rfl
     | false => exact ih (_, _, w + 1) ⟨by simp only; omega, by simp only; omega⟩ (by simp only; omega)
   ·rw [a1y hw]
    simp [a3g, hw, goP, b4X]) N (0, -1, 0) ⟨by simp, by simp⟩ (by simp only; omega)
 simpa using this
theorem st6 (h l d k a : Int) : a2F N h l d k (k == 3) a = a1b k (a) h l d := by
 unfold a1b a2F a2E a3B a2D a3i a1Y a3h a1r
 simp only [a0s]
theorem f5l (hN : maxLen < N) {b : D} {l : List D} (hl : l.length ≤ maxLen) (hb : ∀ x ∈ l, a3Q N b x = some (hbD N b x)) :
  a65 N l (l.length : Int) (b.cell 1).toI (b.cell 3).toI (b.cell 4).toI (b.cell 5).toI (b.cell 6).toI (b.cell 7).toI (b.cell 8).toS (b.cell 9).isNil (b.cell 9).items 0 (-1) 0 = b4X (goP (hbD N b) (fun x => (x.cell 6).toI) (b.cell 1).toI (b.cell 3).toI 0 (-1) l) := by
 have hm : maxLen = 9223372036854775807 := rfl
 unfold a65
 have := a3Z (A := Int × Int × Int) (S := fun a kr => a2J N l (l.length : Int) (b.cell 1).toI (b.cell 3).toI (b.cell 4).toI (b.cell 5).toI (b.cell 6).toI (b.cell 7).toI (b.cell 8).toS (b.cell 9).isNil (b.cell 9).items a.1 a.2.1 a.2.2 (fun x y z => kr (x, y, z)) _ _) (L := fun f a => a4F N l (l.length : Int) (b.cell 1).toI (b.cell 3).toI (b.cell 4).toI (b.cell 5).toI (b.cell 6).toI (b.cell 7).toI (b.cell 8).toS (b.cell 9).isNil (b.cell 9).items f a.1 a.2.1 a.2.2 (fun p => some (Sum.inl p)) (fun p => some (Sum.inr p))) (fun f a => rfl)
  (fun a => b4X (goP (hbD N b) (fun x => (x.cell 6).toI) (b.cell 1).toI (b.cell 3).toI a.1 a.2.1 (l.drop a.2.2.toNat))) (fun a => 0 ≤ a.2.2 ∧ a.2.2 ≤ l.length) (fun a => (l.length - a.2.2).toNat) (fun ⟨h, la, w⟩ kr ⟨h0, h1⟩ ih => by
   simp only at h0 h1 ⊢
   by_cases hw : w < l.length
   ·have hd := a2w (.i 0 : D) h0 hw
    have hx := hb _ (a02 h0 hw)
    unfold a3Q at hx
    rw [hd]
    simp only [a2J, decide_eq_true hw, f5W, a1u h0 hw, a0s]
    rw [hx, a1g (x := w + 1) (by omega) (by omega)]
    simp only [f52, f5W, getD_some, st6, goP]
    cases hbD N b (l.getD w.toNat (.i 0)) with
    | false => exact ih (h, la, w + 1) ⟨by simp only; omega, by simp only; omega⟩ (by simp only; omega)
    | true =>
     simp only [Bool.not_true, f5X]
     unfold a5e
     cases hc : decide ((a1b (b.cell 1).toI _ h la _).1 ≥ (b.cell 3).toI) with
     | true => rfl
     | false => exact ih (_, _, w + 1) ⟨by simp only; omega, by simp only; omega⟩ (by simp only; omega)
   ·rw [a1y hw]
    simp [a2J, hw, goP, b4X]) N (0, -1, 0) ⟨by simp, by simp⟩ (by simp only; omega)
 simpa using this
theorem st7 (h l d k a : Int) : a2c N h l d k (k == 3) a = a1b k ((IntKind.wrap .i64 (a.tdiv 86400)).tmod 7) h l d := by
 unfold a1b a2c a2b a3j a2a a2P a1L a2O a1i c6m c03
 simp only [a0s]
theorem f5m (hN : maxLen < N) {b : D} {l : List D} (hl : l.length ≤ maxLen) (hb : ∀ x ∈ l, a3Q N b x = some (hbD N b x)) :
  a6b N l (l.length : Int) (b.cell 1).toI (b.cell 3).toI (b.cell 4).toI (b.cell 5).toI (b.cell 6).toI (b.cell 7).toI (b.cell 8).toS (b.cell 9).isNil (b.cell 9).items 0 (-1) 0 = b4X (goP (hbD N b) (fun x => (IntKind.wrap .i64 ((x.cell 2).toI.tdiv 86400)).tmod 7) (b.cell 1).toI (b.cell 3).toI 0 (-1) l) := by
 have hm : maxLen = 9223372036854775807 := rfl
 unfold a6b
 have := a3Z (A := Int × Int × Int) (S := fun a kr => a2d N l (l.length : Int) (b.cell 1).toI (b.cell 3).toI (b.cell 4).toI (b.cell 5).toI (b.cell 6).toI (b.cell 7).toI (b.cell 8).toS (b.cell 9).isNil (b.cell 9).items a.1 a.2.1 a.2.2 (fun x y z => kr (x, y, z)) _ _) (L := fun f a => a4d N l (l.length : Int) (b.cell 1).toI (b.cell 3).toI (b.cell 4).toI (b.cell 5).toI (b.cell 6).toI (b.cell 7).toI (b.cell 8).toS (b.cell 9).isNil (b.cell 9).items f a.1 a.2.1 a.2.2 (fun p => some (Sum.inl p)) (fun p => some (Sum.inr p))) (fun f a => rfl)
  (fun a => b4X (goP (hbD N b) (fun x => (IntKind.wrap .i64 ((x.cell 2).toI.tdiv 86400)).tmod 7) (b.cell 1).toI (b.cell 3).toI a.1 a.2.1 (l.drop a.2.2.toNat))) (fun a => 0 ≤ a.2.2 ∧ a.2.2 ≤ l.length) (fun a => (l.length - a.2.2).toNat) (fun ⟨h, la, w⟩ kr ⟨h0, h1⟩ ih => by
   simp only at h0 h1 ⊢
   by_cases hw : w < l.length
   ·have hd := a2w (.i 0 : D) h0 hw
    have hx := hb _ (a02 h0 hw)
    unfold a3Q at hx
    rw [hd]
    simp only [a2d, decide_eq_true hw, f5W, a1u h0 hw, a0s]
    rw [hx, a1g (x := w + 1) (by omega) (by omega)]
    simp only [f52, f5W, getD_some, st7, goP]
    cases hbD N b (l.getD w.toNat (.i 0)) with
    | false => exact ih (h, la, w + 1) ⟨by simp only; omega, by simp only; omega⟩ (by simp only; omega)
    | true =>
     simp only [Bool.not_true, f5X]
     unfold a5e
     cases hc : decide ((a1b (b.cell 1).toI _ h la _).1 ≥ (b.cell 3).toI) with
     | true => rfl
     | false => exact ih (_, _, w + 1) ⟨by simp only; omega, by simp only; omega⟩ (by simp only; omega)
   ·rw [a1y hw]
    simp [a2d, hw, goP, b4X]) N (0, -1, 0) ⟨by simp, by simp⟩ (by simp only; omega)
 simpa using this
end Go.Proofs.YtfkkcdapcgimlaaGreatDoor

namespace Go.Proofs.YtfkkcdapcgimlaaGreatDoor
open Go Go.AM
set_option maxRecDepth 100000
set_option maxHeartbeats 4000000
variable {N : Nat}
noncomputable def fvF (f : Int) (x : D) : Int := bif f == 0 then 1 else c6O 0 (x.cell 2).toI (x.cell 3).toI (x.cell 4).toI (x.cell 5).toI (x.cell 6).toI f
theorem e3M {f : Int} (h : inI f 1 7 = true) : f = 1 ∨ f = 2 ∨ f = 3 ∨ f = 4 ∨ f = 5 ∨ f = 6 ∨ f = 7 := by
 unfold inI at h; simp at h; omega
theorem d95 (hN : maxLen < N) {b : D} {l : List D} (hl : l.length ≤ maxLen) (hb : ∀ x ∈ l, a3Q N b x = some (hbD N b x)) (hf : (b.cell 2).toI = 0 ∨ inI (b.cell 2).toI 1 7 = true) :
  d3n N (b.cell 1).toI (b.cell 2).toI (b.cell 3).toI (b.cell 4).toI (b.cell 5).toI (b.cell 6).toI (b.cell 7).toI (b.cell 8).toS (b.cell 9).isNil (b.cell 9).items l = some (e9g (goP (hbD N b) (fvF (b.cell 2).toI) (b.cell 1).toI (b.cell 3).toI 0 (-1) l)) := by
 unfold d3n d7D
 rw [f5f hN hl hb, f5g hN hl hb, f5h hN hl hb, f5i hN hl hb, f5j hN hl hb, f5k hN hl hb, f5l hN hl hb, f5m hN hl hb]
 rcases hf with hf | hf
 ·rw [hf]
  have e : fvF 0 = fun _ => (1 : Int) := rfl
  rw [e]
  cases goP (hbD N b) (fun _ => (1 : Int)) (b.cell 1).toI (b.cell 3).toI 0 (-1) l <;> rfl
 ·rcases e3M hf with h | h | h | h | h | h | h
  ·rw [h]
   have e : fvF 1 = fun x => (x.cell 2).toI := rfl
   rw [e]
   cases goP (hbD N b) (fun x => (x.cell 2).toI) (b.cell 1).toI (b.cell 3).toI 0 (-1) l <;> rfl
  ·rw [h]
   have e : fvF 2 = fun x => IntKind.wrap .i64 ((x.cell 2).toI.tdiv 86400) := rfl
   rw [e]
   cases goP (hbD N b) (fun x => IntKind.wrap .i64 ((x.cell 2).toI.tdiv 86400)) (b.cell 1).toI (b.cell 3).toI 0 (-1) l <;> rfl
  ·rw [h]
   have e : fvF 3 = fun x => (x.cell 3).toI := rfl
   rw [e]
   cases goP (hbD N b) (fun x => (x.cell 3).toI) (b.cell 1).toI (b.cell 3).toI 0 (-1) l <;> rfl
  ·rw [h]
   have e : fvF 4 = fun x => (x.cell 4).toI := rfl
   rw [e]
   cases goP (hbD N b) (fun x => (x.cell 4).toI) (b.cell 1).toI (b.cell 3).toI 0 (-1) l <;> rfl
  ·rw [h]
   have e : fvF 5 = fun x => (x.cell 5).toI := rfl
   rw [e]
   cases goP (hbD N b) (fun x => (x.cell 5).toI) (b.cell 1).toI (b.cell 3).toI 0 (-1) l <;> rfl
  ·rw [h]
   have e : fvF 6 = fun x => (x.cell 6).toI := rfl
   rw [e]
   cases goP (hbD N b) (fun x => (x.cell 6).toI) (b.cell 1).toI (b.cell 3).toI 0 (-1) l <;> rfl
  ·rw [h]
   have e : fvF 7 = fun x => (IntKind.wrap .i64 ((x.cell 2).toI.tdiv 86400)).tmod 7 := rfl
   rw [e]
   cases goP (hbD N b) (fun x => (IntKind.wrap .i64 ((x.cell 2).toI.tdiv 86400)).tmod 7) (b.cell 1).toI (b.cell 3).toI 0 (-1) l <;> rfl
def skR (sk la d : Int) : Int := bif d == IntKind.wrap .i64 (la + 1) then IntKind.wrap .i64 (sk + 1) else bif d != la then 1 else sk
def e5j (k n many sm fv sk : Int) : Bool := bif k == 1 then decide (many ≥ n) else bif k == 2 then decide (sm ≥ n) else bif k == 3 then decide (fv ≥ n) else decide (sk ≥ n)
def goR (hb : D → Bool) (fv : D → Int) (isF : Bool) (k n : Int) : Int → Int → Int → Int → List D → Option D
 | _, _, _, _, [] => none
 | m, sm, sk, la, x :: r => bif !hb x then goR hb fv isF k n m sm sk la r else
   bif e5j k n (IntKind.wrap .i64 (m + 1)) (bif isF then IntKind.wrap .i64 (sm + fv x) else sm) (fv x) (skR sk la (a5e x)) then some x
   else goR hb fv isF k n (IntKind.wrap .i64 (m + 1)) (bif isF then IntKind.wrap .i64 (sm + fv x) else sm) (skR sk la (a5e x)) (a5e x) r
noncomputable def fvR (f : Int) (x : D) : Int := c6O 0 (x.cell 2).toI (x.cell 3).toI (x.cell 4).toI (x.cell 5).toI (x.cell 6).toI f
theorem f5I (sk la d : Int) : a6l N sk la d (d == IntKind.wrap .i64 (la + 1)) = skR sk la d := by
 unfold a6l a6k b7s b0w skR
 simp only [a0s]
theorem f5J (sm : Int) (w : Bool) (f a b c d e : Int) : b3V N sm w f a b c d e = bif w then IntKind.wrap .i64 (sm + c6O 0 a b c d e f) else sm := by
 unfold b3V b3U
 simp only [a0s]
 rfl
theorem f5K (m sm sk k f n a b c d e : Int) : a6p N m sm sk k (k == 1) f n a b c d e = e5j k n m sm (c6O 0 a b c d e f) sk := by
 unfold a6p a6o a8e a6n a8d a6m e5j
 simp only [a0s]
 rfl
theorem f5n (hN : maxLen < N) {b : D} {l : List D} (hl : l.length ≤ maxLen) (hb : ∀ x ∈ l, d16 N b x = some (hbD N b x)) :
  c9b N l (l.length : Int) (b.cell 1).toI (b.cell 2).toI (b.cell 3).toI (b.cell 4).toI (b.cell 5).toI (b.cell 6).toI (b.cell 7).toI (b.cell 8).toS (b.cell 9).isNil (b.cell 9).items 0 0 0 (-2) 0 = b4X (goR (hbD N b) (fvR (b.cell 2).toI) (inI (b.cell 2).toI 1 7) (b.cell 1).toI (b.cell 3).toI 0 0 0 (-2) l) := by
 have hm : maxLen = 9223372036854775807 := rfl
 unfold c9b
 have := a3Z (A := Int × Int × Int × Int × Int) (S := fun a kr => b4P N l (l.length : Int) (b.cell 1).toI (b.cell 2).toI (b.cell 3).toI (b.cell 4).toI (b.cell 5).toI (b.cell 6).toI (b.cell 7).toI (b.cell 8).toS (b.cell 9).isNil (b.cell 9).items a.1 a.2.1 a.2.2.1 a.2.2.2.1 a.2.2.2.2 (fun x y z u v => kr (x, y, z, u, v)) _ _) (L := fun f a => c4a N l (l.length : Int) (b.cell 1).toI (b.cell 2).toI (b.cell 3).toI (b.cell 4).toI (b.cell 5).toI (b.cell 6).toI (b.cell 7).toI (b.cell 8).toS (b.cell 9).isNil (b.cell 9).items f a.1 a.2.1 a.2.2.1 a.2.2.2.1 a.2.2.2.2 (fun p => some (Sum.inl p)) (fun p => some (Sum.inr p))) (fun f a => rfl)
  (fun a => b4X (goR (hbD N b) (fvR (b.cell 2).toI) (inI (b.cell 2).toI 1 7) (b.cell 1).toI (b.cell 3).toI a.1 a.2.1 a.2.2.1 a.2.2.2.1 (l.drop a.2.2.2.2.toNat))) (fun a => 0 ≤ a.2.2.2.2 ∧ a.2.2.2.2 ≤ l.length) (fun a => (l.length - a.2.2.2.2).toNat) (fun ⟨m, sm, sk, la, w⟩ kr ⟨h0, h1⟩ ih => by
   simp only at h0 h1 ⊢
   by_cases hw : w < l.length
   ·have hd := a2w (.i 0 : D) h0 hw
    have hx := hb _ (a02 h0 hw)
    unfold d16 at hx
    rw [hd]
    simp only [b4P, decide_eq_true hw, f5W, a1u h0 hw, a0s]
    rw [hx, a1g (x := w + 1) (by omega) (by omega)]
    simp only [f52, f5W, getD_some, f5I, f5J, f5K, c4p, goR]
    cases hbD N b (l.getD w.toNat (.i 0)) with
    | false => exact ih (m, sm, sk, la, w + 1) ⟨by simp only; omega, by simp only; omega⟩ (by simp only; omega)
    | true =>
     simp only [Bool.not_true, f5X]
     unfold a5e fvR
     generalize hg : e5j _ _ _ _ _ _ = g
     cases g with
     | true => rfl
     | false => exact ih (_, _, _, _, w + 1) ⟨by simp only; omega, by simp only; omega⟩ (by simp only; omega)
   ·rw [a1y hw]
    simp [b4P, hw, goR, b4X]) N (0, 0, 0, -2, 0) ⟨by simp, by simp⟩ (by simp only; omega)
 simpa using this
theorem e8T (hN : maxLen < N) {b : D} {l : List D} (hl : l.length ≤ maxLen) (hb : ∀ x ∈ l, d16 N b x = some (hbD N b x)) :
  d3P N (b.cell 1).toI (b.cell 2).toI (b.cell 3).toI (b.cell 4).toI (b.cell 5).toI (b.cell 6).toI (b.cell 7).toI (b.cell 8).toS (b.cell 9).isNil (b.cell 9).items l = some (e9g (goR (hbD N b) (fvR (b.cell 2).toI) (inI (b.cell 2).toI 1 7) (b.cell 1).toI (b.cell 3).toI 0 0 0 (-2) l)) := by
 unfold d3P d9f
 rw [f5n hN hl hb]
 cases goR (hbD N b) (fvR (b.cell 2).toI) (inI (b.cell 2).toI 1 7) (b.cell 1).toI (b.cell 3).toI 0 0 0 (-2) l <;> rfl
def f5o (k h la m sm sk la' : Int) : Prop := k = 1 ∧ h = m ∨ k = 2 ∧ h = sm ∨ k = 3 ∨ k = 4 ∧ h = sk ∧ (la = -1 ∧ la' = -2 ∨ la = la' ∧ 0 ≤ la ∧ la ≤ 1000000)
theorem d96 {hb : D → Bool} {f k n : Int} (hk : inI k 1 4 = true) (hf : (k = 2 ∨ k = 3) ∧ inI f 1 7 = true ∨ ¬ (k = 2 ∨ k = 3) ∧ f = 0) :
  ∀ (l : List D) (h la m sm sk la' : Int), (∀ x ∈ l, 0 ≤ (x.cell 2).toI ∧ (x.cell 2).toI ≤ 86399999999) → f5o k h la m sm sk la' → goP hb (fvF f) k n h la l = goR hb (fvR f) (inI f 1 7) k n m sm sk la' l
 | [], _, _, _, _, _, _, _, _ => rfl
 | x :: l, h, la, m, sm, sk, la', hx, hr => by
  have ih := fun h la m sm sk la' => d96 (hb := hb) (f := f) (k := k) (n := n) hk hf l h la m sm sk la' (fun y hy => hx y (by simp [hy]))
  obtain ⟨hx0, hx1⟩ := hx x (by simp)
  have hd : a5e x = (x.cell 2).toI / 86400 := by
   unfold a5e
   rw [Int.tdiv_eq_ediv_of_nonneg hx0, a1g (by omega) (by omega)]
  have hd0 : 0 ≤ a5e x ∧ a5e x ≤ 1000000 := by rw [hd]; omega
  simp only [goP, goR]
  cases hb x with
  | false => exact ih _ _ _ _ _ _ hr
  | true =>
   simp only [Bool.not_true, f5X]
   generalize a5e x = d at *
   rcases hr with ⟨rfl, rfl⟩ | ⟨rfl, rfl⟩ | rfl | ⟨rfl, rfl, hl⟩
   ·obtain ⟨_, rfl⟩ : ¬((1 : Int) = 2 ∨ (1 : Int) = 3) ∧ f = 0 := by rcases hf with ⟨h, _⟩ | h; omega; exact h
    have e1 : a1b 1 (fvF 0 x) h la d = (IntKind.wrap .i64 (h + 1), la) := rfl
    rw [e1]
    have e2 : ∀ sm sk, e5j 1 n (IntKind.wrap .i64 (h + 1)) sm (fvR 0 x) sk = decide (IntKind.wrap .i64 (h + 1) ≥ n) := fun _ _ => rfl
    rw [e2]
    cases decide (IntKind.wrap .i64 (h + 1) ≥ n) with
    | true => rfl
    | false => exact ih _ _ _ _ _ _ (.inl ⟨rfl, rfl⟩)
   ·obtain ⟨_, hf⟩ : ((2 : Int) = 2 ∨ (2 : Int) = 3) ∧ inI f 1 7 = true := by rcases hf with h | ⟨h, _⟩; exact h; omega
    have ef : fvF f x = fvR f x := by
     have : (f == 0) = false := by rcases e3M hf with h | h | h | h | h | h | h <;> subst h <;> rfl
     unfold fvF fvR; rw [this]; rfl
    have e1 : a1b 2 (fvF f x) h la d = (IntKind.wrap .i64 (h + fvF f x), la) := rfl
    rw [e1, ef, hf]
    simp only [f5W]
    have e2 : ∀ m sk, e5j 2 n m (IntKind.wrap .i64 (h + fvR f x)) (fvR f x) sk = decide (IntKind.wrap .i64 (h + fvR f x) ≥ n) := fun _ _ => rfl
    rw [e2]
    cases decide (IntKind.wrap .i64 (h + fvR f x) ≥ n) with
    | true => rfl
    | false => rw [hf] at ih; exact ih _ _ _ _ _ _ (.inr (.inl ⟨rfl, rfl⟩))
   ·obtain ⟨_, hf⟩ : ((3 : Int) = 2 ∨ (3 : Int) = 3) ∧ inI f 1 7 = true := by rcases hf with h | ⟨h, _⟩; exact h; omega
    have ef : fvF f x = fvR f x := by
     have : (f == 0) = false := by rcases e3M hf with h | h | h | h | h | h | h <;> subst h <;> rfl
     unfold fvF fvR; rw [this]; rfl
    have e1 : a1b 3 (fvF f x) h la d = (fvF f x, la) := rfl
    rw [e1, ef]
    have e2 : ∀ m sm sk, e5j 3 n m sm (fvR f x) sk = decide (fvR f x ≥ n) := fun _ _ _ => rfl
    rw [e2]
    cases decide (fvR f x ≥ n) with
    | true => rfl
    | false => exact ih _ _ _ _ _ _ (.inr (.inr (.inl rfl)))
   ·have e1 : a1b 4 (fvF f x) h la d = (skR h la' d, d) := by
     unfold a1b skR
     simp only [show ((4 : Int) == 3) = false from rfl, show ((4 : Int) == 4) = true from rfl, f5W, f5X]
     congr 1
     rcases hl with ⟨rfl, rfl⟩ | ⟨rfl, h0, h1⟩
     ·have q1 : (d == (-1 : Int)) = false := by simp; omega
      have q2 : (d == IntKind.wrap .i64 ((-2 : Int) + 1)) = false := by rw [a1g (by omega) (by omega)]; simp; omega
      have q3 : (d != (-2 : Int)) = true := by simp; omega
      rw [q1, q2, q3]
      rfl
     ·rw [a1g (by omega) (by omega), decide_eq_true (show la ≥ 0 from h0)]
      by_cases q : d = la
      ·subst q
       have q2 : (d == d + 1) = false := by simp; omega
       simp [q2]
      ·have q1 : (d == la) = false := by simp [q]
       have q3 : (d != la) = true := by simp [q]
       simp only [q1, q3, f5W, f5X]
    rw [e1]
    have e2 : ∀ m sm, e5j 4 n m sm (fvR f x) (skR h la' d) = decide (skR h la' d ≥ n) := fun _ _ => rfl
    rw [e2]
    cases decide (skR h la' d ≥ n) with
    | true => rfl
    | false => exact ih _ _ _ _ _ _ (.inr (.inr (.inr ⟨rfl, rfl, .inr ⟨rfl, hd0.1, hd0.2⟩⟩)))
end Go.Proofs.YtfkkcdapcgimlaaGreatDoor

namespace Go.Proofs.YtfkkcdapcgimlaaGreatDoor
open Go Go.AM Go.Sort
set_option maxRecDepth 100000
set_option maxHeartbeats 4000000
variable {N : Nat}
def cE (x y : D) : Int := lex (Lib.compareInt (x.cell 2).toI (y.cell 2).toI) (lex (Lib.compareBytes (x.cell 1).toS (y.cell 1).toS) (lex (Lib.compareBytes (x.cell 0).toS (y.cell 0).toS) 0))
theorem d35 : a8G cE := a4f (a1w b35 fun x : D => (x.cell 2).toI) (a4f (a1w a6q fun x : D => (x.cell 1).toS) (a4f (a1w a6q fun x : D => (x.cell 0).toS) b0A))
theorem d97 {x y : D} (h : cE x y = 0) : nmD x = nmD y := by
 unfold cE lex at h
 refine a3l _ _ ?_
 split at h
 ·split at h
  ·split at h <;> assumption
  ·omega
 ·omega
theorem f5p : a0j Tryz.prog 40 = true := by kernel_rfl
theorem f5q : a0j Tryz.prog 47 = true := by kernel_rfl
theorem a4X {l : List D} (hl : l.length ≤ 5000) (hp : l.Pairwise fun x y => nmD x ≠ nmD y) : b0c l = true ∧ (a0C l).Perm l ∧ (a0C l).Pairwise fun x y => leO cR x y = true := by
 have hb : Nat.blt l.length 4611686018427387904 = true := Nat.ble_eq_true_of_le (by omega)
 have e : d1W Tryz.prog 40 a9E = cR := by
  funext x y
  simp only [d1W, a9E, elD, f5p]
  rfl
 unfold b0c a0C
 refine ⟨?_, c1D l, ?_⟩
 ·rw [hb, Bool.and_true, b0C]
  intro a ha b hb h0
  rw [e] at h0
  exact a5n hp (fun x y h => c4r h) a ha b hb h0
 ·have := b1f (P := Tryz.prog) (e := 40) (os := a9E) l
  rw [e] at this
  exact this
theorem a4h {l : List D} (hl : l.length ≤ 5000) (hp : l.Pairwise fun x y => nmD x ≠ nmD y) : a4z l = true ∧ (a1U l).Perm l ∧ (a1U l).Pairwise fun x y => leO cE x y = true := by
 have hb : Nat.blt l.length 4611686018427387904 = true := Nat.ble_eq_true_of_le (by omega)
 have e : d1W Tryz.prog 47 a3c = cE := by
  funext x y
  simp only [d1W, a3c, elD, f5q]
  rfl
 unfold a4z a1U
 refine ⟨?_, c1D l, ?_⟩
 ·rw [hb, Bool.and_true, b0C]
  intro a ha b hb h0
  rw [e] at h0
  exact a5n hp (fun x y h => d97 h) a ha b hb h0
 ·have := b1f (P := Tryz.prog) (e := 47) (os := a3c) l
  rw [e] at this
  exact this
theorem f3V (hN : maxLen < N) {l : List D} (hl : l.length ≤ 5000) (hx : ∀ x ∈ l, b9v x = x) (hp : l.Pairwise fun x y => nmD x ≠ nmD y) : ∃ nl, d3f N l = some (nl, a0C l) := by
 have hm : maxLen = 9223372036854775807 := rfl
 have h : ∃ nl, c2G N l (l.length : Int) 0 true [] = some (nl, l) := by
  have := a1P (A := Int × Bool × List D) (S := fun a kr => b0b N l (l.length : Int) a.1 a.2.1 a.2.2 (fun x y z => kr (x, y, z)) _) (L := fun f a => b6K N l (l.length : Int) f a.1 a.2.1 a.2.2 (fun p => some p)) (fun f a => rfl)
   (fun a X => ∃ nl, X = some (nl, a.2.2 ++ l.drop a.1.toNat)) (fun a => 0 ≤ a.1 ∧ a.1 ≤ l.length ∧ a.2.2.length = a.1.toNat) (fun a => (l.length - a.1).toNat) (fun ⟨w, f, o⟩ kr ⟨h0, h1, h2⟩ ih => by
    simp only at h0 h1 h2 ⊢
    by_cases hw : w < l.length
    ·have hd := a2w (.i 0 : D) h0 hw
     have e := hx _ (a02 h0 hw)
     have hg : a9c N ((l.getD w.toNat (.i 0)).cell 0).toS ((l.getD w.toNat (.i 0)).cell 1).toI ((l.getD w.toNat (.i 0)).cell 2).toI ((l.getD w.toNat (.i 0)).cell 3).toI ((l.getD w.toNat (.i 0)).cell 4).toI ((l.getD w.toNat (.i 0)).cell 5).toI ((l.getD w.toNat (.i 0)).cell 6).toI ((l.getD w.toNat (.i 0)).cell 7).isNil ((l.getD w.toNat (.i 0)).cell 7).items o = some (o ++ [l.getD w.toNat (.i 0)]) := by
      unfold a9c a9b
      rw [d93 (by omega)]
      simp only [f5W, a0s]
      unfold b9v at e
      rw [e]
     simp only [b0b, decide_eq_true hw, f5W, a1u h0 hw, a0s]
     rw [hg, a1g (by omega) (by omega)]
     simp only [f52, f5W, getD_some]
     obtain ⟨nl, hk⟩ := ih (w + 1, false, o ++ [l.getD w.toNat (.i 0)]) ⟨by simp only; omega, by simp only; omega, by simp only [List.length_append, List.length_singleton]; omega⟩ (by simp only; omega)
     refine ⟨nl, hk.trans ?_⟩
     simp only
     rw [hd]
     simp
    ·refine ⟨f, ?_⟩
     rw [a1y hw]
     simp [b0b, hw]) N (0, true, []) ⟨by simp, by simp only; omega, by simp⟩ (by simp only; omega)
  simpa [c2G] using this
 obtain ⟨nl, h⟩ := h
 obtain ⟨s1, _, _⟩ := a4X hl hp
 unfold d3f d3e d0E c0W d0B c0V a3y a1C d0y c0U
 rw [h]
 simp only [a0s, f52, f5W, getD_some]
 rw [s1]
 exact ⟨nl, rfl⟩
def d36 (b x : D) : D := .a [.s (nmD b), .s (nmD x), .i (x.cell 2).toI]
noncomputable def erB (N : Nat) (rows : List D) (b : D) : Option D := goP (hbD N b) (fvF (b.cell 2).toI) (b.cell 1).toI (b.cell 3).toI 0 (-1) rows
noncomputable def b7C (N : Nat) (rows : List D) (l : List D) : List D := l.filterMap fun b => (erB N rows b).map (d36 b)
structure e8U (N : Nat) (rows l : List D) : Prop where
 len : l.length ≤ 50
 prog : ∀ b ∈ l, d3n N (b.cell 1).toI (b.cell 2).toI (b.cell 3).toI (b.cell 4).toI (b.cell 5).toI (b.cell 6).toI (b.cell 7).toI (b.cell 8).toS (b.cell 9).isNil (b.cell 9).items rows = some (e9g (erB N rows b))
 ref : ∀ b ∈ l, d3P N (b.cell 1).toI (b.cell 2).toI (b.cell 3).toI (b.cell 4).toI (b.cell 5).toI (b.cell 6).toI (b.cell 7).toI (b.cell 8).toS (b.cell 9).isNil (b.cell 9).items rows = some (e9g (erB N rows b))
theorem e5k {n : Nat} (h : n ≤ 50) : (decide ((n + 1) * 40 ≤ b1h) && decide ((n + 1) ≤ a0U)) = true := by
 have h1 : b1h = 140737488355328 := rfl
 have h2 : a0U = 9223372036854775807 := rfl
 rw [f5U, decide_eq_true_eq, decide_eq_true_eq]; omega
theorem d98 {n : Nat} (h : n ≤ 200) : (decide (n * 40 ≤ b1h) && decide (n ≤ a0U)) = true := by
 have h1 : b1h = 140737488355328 := rfl
 have h2 : a0U = 9223372036854775807 := rfl
 rw [f5U, decide_eq_true_eq, decide_eq_true_eq]; omega
theorem b9s (rows : List D) (b : D) (l : List D) : b7C N rows (b :: l) = (match erB N rows b with | some x => [d36 b x] | none => []) ++ b7C N rows l := by
 unfold b7C
 rw [List.filterMap_cons]
 cases erB N rows b <;> rfl
theorem d17 (hN : maxLen < N) {rows l : List D} (h : e8U N rows l) : ∃ nl, c3G N rows l (l.length : Int) 0 true [] = some (nl, b7C N rows l) := by
 have hm : maxLen = 9223372036854775807 := rfl
 have hl := h.len
 have := a1P (A := Int × Bool × List D) (S := fun a kr => b0i N rows l (l.length : Int) a.1 a.2.1 a.2.2 (fun x y z => kr (x, y, z)) _) (L := fun f a => b6X N rows l (l.length : Int) f a.1 a.2.1 a.2.2 (fun p => some p)) (fun f a => rfl)
  (fun a X => ∃ nl, X = some (nl, a.2.2 ++ b7C N rows (l.drop a.1.toNat))) (fun a => 0 ≤ a.1 ∧ a.1 ≤ l.length ∧ a.2.2.length ≤ a.1.toNat) (fun a => (l.length - a.1).toNat) (fun ⟨w, f, o⟩ kr ⟨h0, h1, h2⟩ ih => by
   simp only at h0 h1 h2 ⊢
   by_cases hw : w < l.length
   ·have hd := a2w (.i 0 : D) h0 hw
    have e := h.prog _ (a02 h0 hw)
    simp only [b0i, decide_eq_true hw, f5W, a1u h0 hw, a0s]
    rw [e, a1g (by omega) (by omega), hd, b9s]
    simp only [f52, f5W, getD_some]
    unfold b6W b3m
    cases erB N rows (l.getD w.toNat (.i 0)) with
    | none =>
     obtain ⟨nl, hk⟩ := ih (w + 1, f, o) ⟨by simp only; omega, by simp only; omega, by simp only; omega⟩ (by simp only; omega)
     refine ⟨nl, hk.trans ?_⟩
     simp
    | some x =>
     simp only [e9g, f5W]
     rw [e5k (by omega)]
     simp only [f5W, b6k, c2c]
     obtain ⟨nl, hk⟩ := ih (w + 1, false, o ++ [d36 (l.getD w.toNat (.i 0)) x]) ⟨by simp only; omega, by simp only; omega, by simp only [List.length_append, List.length_singleton]; omega⟩ (by simp only; omega)
     refine ⟨nl, hk.trans ?_⟩
     simp
   ·refine ⟨f, ?_⟩
    rw [a1y hw]
    simp [b0i, hw, b7C]) N (0, true, []) ⟨by simp, by simp only; omega, by simp⟩ (by simp only; omega)
 simpa [c3G] using this
theorem f3W (e y : D) : d9k N (e.cell 0).toS (e.cell 1).toS (e.cell 2).toI (y.cell 0).toS (y.cell 1).toS (y.cell 2).toI = decide (cE e y < 0) := by
 unfold d9k d9j
 rw [Bool.eq_iff_iff, decide_eq_true_eq]
 have h1 := a5w (e.cell 1).toS (y.cell 1).toS
 have h0 := a5w (e.cell 0).toS (y.cell 0).toS
 have z1 := a3l (e.cell 1).toS (y.cell 1).toS
 have z2 : (e.cell 1).toS = (y.cell 1).toS → Lib.compareBytes (e.cell 1).toS (y.cell 1).toS = 0 := fun h => by
  rw [h]
  have := a43 (y.cell 1).toS (y.cell 1).toS
  omega
 have hz : Lib.compareBytes (e.cell 1).toS (y.cell 1).toS = 0 ↔ (e.cell 1).toS = (y.cell 1).toS := ⟨z1, z2⟩
 unfold cE
 generalize Lib.compareBytes (e.cell 1).toS (y.cell 1).toS = c1 at *
 generalize Lib.compareBytes (e.cell 0).toS (y.cell 0).toS = c0 at *
 generalize Op.bytesLess (e.cell 1).toS (y.cell 1).toS = b1 at *
 generalize Op.bytesLess (e.cell 0).toS (y.cell 0).toS = b0 at *
 generalize (e.cell 2).toI = a at *
 generalize (y.cell 2).toI = b at *
 simp only [a0s, lex, Lib.compareInt]
 by_cases p : a < b
 ·have p2 : ¬ a = b := by omega
  simp [p, p2]
 ·by_cases q : a > b
  ·have p2 : ¬ a = b := by omega
   simp [p, q, p2]
  ·have p2 : a = b := by omega
   subst p2
   by_cases r : (e.cell 1).toS = (y.cell 1).toS
   ·have r0 := hz.2 r
    subst r0
    rw [r]
    cases b1 with
    | true => simp at h1
    | false =>
     by_cases s : c0 = 0
     ·subst s
      cases b0 <;> simp at h0 ⊢
     ·simp [s, h0]
   ·have r0 : ¬ c1 = 0 := fun h => r (hz.1 h)
    cases b1 <;> simp [r, r0] at h1 ⊢ <;> omega
theorem e3N (hN : maxLen < N) {out : List D} (hl : out.length ≤ 50) (hp : out.Pairwise fun x y => leO cE x y = true) (e : D) (he : ∃ s t i, e = .a [.s s, .s t, .i i]) :
  ∃ w : Nat, c4c N out (e.cell 0).toS (e.cell 1).toS (e.cell 2).toI (out.length : Int) = some (w : Int) ∧ w ≤ out.length ∧ (∀ y ∈ out.take w, leO cE y e = true) ∧ ∀ y ∈ out.drop w, leO cE e y = true := by
 have hm : maxLen = 9223372036854775807 := rfl
 have := a1P (A := Int) (S := fun a kr => b31 N out (e.cell 0).toS (e.cell 1).toS (e.cell 2).toI a kr _) (L := fun f a => b7u N out (e.cell 0).toS (e.cell 1).toS (e.cell 2).toI f a (fun p => some p)) (fun f a => rfl)
  (fun a X => ∃ w : Nat, X = some (w : Int) ∧ w ≤ out.length ∧ (∀ y ∈ out.take w, leO cE y e = true) ∧ ∀ y ∈ out.drop w, leO cE e y = true) (fun a => 0 ≤ a ∧ a ≤ out.length ∧ ∀ y ∈ out.drop a.toNat, leO cE e y = true) (fun a => a.toNat) (fun w kr ⟨h0, h1, h2⟩ ih => by
   simp only [b31, a0s]
   unfold b7t b30
   by_cases hw : w > 0
   ·have hlt : (w - 1).toNat < out.length := by omega
    rw [decide_eq_true hw, a1g (by omega) (by omega), a1u (i := w - 1) (by omega) (by omega), decide_eq_true hlt]
    simp only [a0s, f5W, f52, getD_some, f3W]
    have hd := a2w (.i 0 : D) (xs := out) (w := w - 1) (by omega) (by omega)
    have ht := b4U (l := out) (w := w - 1) (by omega) (by omega)
    have ew : w - 1 + 1 = w := by omega
    rw [ew] at hd ht
    by_cases hc : cE e (out.getD (w - 1).toNat (.i 0)) < 0
    ·rw [decide_eq_true hc]
     refine ih (w - 1) ⟨by omega, by omega, fun y hy => ?_⟩ (by omega)
     rw [hd] at hy
     rcases f59.1 hy with hy | hy
     ·rw [hy, a9G d35]; omega
     ·exact h2 y hy
    ·rw [decide_eq_false hc]
     refine ⟨w.toNat, by simp only [f5X]; congr 1; omega, by omega, fun y hy => ?_, h2⟩
     have hlast : leO cE (out.getD (w - 1).toNat (.i 0)) e = true := by
      rw [a9G d35]
      have := d35.sym e (out.getD (w - 1).toNat (.i 0))
      have := d35.sym (out.getD (w - 1).toNat (.i 0)) e
      omega
     rw [ht] at hy
     have hp' : (out.take w.toNat).Pairwise fun x y => leO cE x y = true := hp.sublist (List.take_sublist ..)
     rw [ht, List.pairwise_append] at hp'
     rcases List.mem_append.1 hy with hy | hy
     ·exact b9r d35 _ _ _ (hp'.2.2 y hy _ (by simp)) hlast
     ·simp only [List.mem_singleton] at hy
      rw [hy]; exact hlast
   ·have hz : w = 0 := by omega
    subst hz
    rw [decide_eq_false (by omega)]
    refine ⟨0, rfl, by omega, by simp, ?_⟩
    simpa using h2) N (out.length : Int) ⟨by omega, by omega, by simp⟩ (by omega)
 exact this
theorem e8V (hN : maxLen < N) {rows l : List D} (h : e8U N rows l) : ∃ nl r, d1M N rows l (l.length : Int) 0 true [] = some (nl, r) ∧ r.Perm (b7C N rows l) ∧ r.Pairwise fun x y => leO cE x y = true := by
 have hm : maxLen = 9223372036854775807 := rfl
 have hl := h.len
 have := a1P (A := Int × Bool × List D) (S := fun a kr => b0y N rows l (l.length : Int) a.1 a.2.1 a.2.2 (fun x y z => kr (x, y, z)) _) (L := fun f a => b7w N rows l (l.length : Int) f a.1 a.2.1 a.2.2 (fun p => some p)) (fun f a => rfl)
  (fun a X => ∃ nl r, X = some (nl, r) ∧ r.Perm (a.2.2 ++ b7C N rows (l.drop a.1.toNat)) ∧ r.Pairwise fun x y => leO cE x y = true) (fun a => 0 ≤ a.1 ∧ a.1 ≤ l.length ∧ a.2.2.length ≤ a.1.toNat ∧ a.2.2.Pairwise fun x y => leO cE x y = true) (fun a => (l.length - a.1).toNat) (fun ⟨w, f, o⟩ kr ⟨h0, h1, h2, h3⟩ ih => by
   simp only at h0 h1 h2 h3 ⊢
   by_cases hw : w < l.length
   ·have hd := a2w (.i 0 : D) h0 hw
    have e := h.ref _ (a02 h0 hw)
    simp only [b0y, decide_eq_true hw, f5W, a1u h0 hw, a0s]
    rw [e, a1g (by omega) (by omega), hd, b9s]
    simp only [f52, f5W, getD_some]
    cases erB N rows (l.getD w.toNat (.i 0)) with
    | none =>
     obtain ⟨nl, r, hk, hq, hs⟩ := ih (w + 1, f, o) ⟨by simp only; omega, by simp only; omega, by simp only; omega, h3⟩ (by simp only; omega)
     exact ⟨nl, r, hk, by simpa using hq, hs⟩
    | some x =>
     obtain ⟨at', p1, p2, p3, p4⟩ := e3N hN (out := o) (by omega) h3 (d36 (l.getD w.toNat (.i 0)) x) ⟨_, _, _, rfl⟩
     have p1 : c4c N o ((l.getD w.toNat (.i 0)).cell 0).toS (x.cell 0).toS (x.cell 2).toI (o.length : Int) = some (at' : Int) := p1
     simp only [e9g, Bool.not_true, f5X]
     simp only [p1]
     have q1 : decide (0 ≤ (at' : Int)) = true := decide_eq_true (by omega)
     have q2 : decide ((at' : Int) ≤ (o.length : Int)) = true := decide_eq_true (by omega)
     have q3 : decide ((o.length : Int) ≤ (o.length : Int)) = true := decide_eq_true (by omega)
     have s1 : (o.take at').length = at' := by rw [List.length_take]; omega
     have s2 : (o.drop at').length = o.length - at' := List.length_drop ..
     simp only [f52, f5W, getD_some, q1, q2, q3, Int.toNat_natCast, List.drop_zero, Bool.and_true, List.take_length, Nat.zero_add]
     have r1 := d98 (n := (o.take at').length) (by omega)
     have r2 := e5k (n := (o.take at').length) (by omega)
     have r3 := d98 (n := (o.take at' ++ [D.a [D.s ((l.getD w.toNat (.i 0)).cell 0).toS, D.s (x.cell 0).toS, D.i (x.cell 2).toI]]).length + (o.drop at').length) (by simp only [List.length_append, List.length_singleton]; omega)
     simp only [r1, r2, r3, f5W]
     have hpw : ((o.take at' ++ [d36 (l.getD w.toNat (.i 0)) x]) ++ o.drop at').Pairwise fun x y => leO cE x y = true := by
      have h3' := h3
      rw [← List.take_append_drop at' o, List.pairwise_append] at h3'
      rw [List.append_assoc, List.pairwise_append]
      refine ⟨h3'.1, ?_, fun a ha b hb => ?_⟩
      ·rw [List.singleton_append, List.pairwise_cons]
       exact ⟨p4, h3'.2.1⟩
      ·rw [List.singleton_append] at hb
       rcases f59.1 hb with hb | hb
       ·rw [hb]; exact p3 a ha
       ·exact h3'.2.2 a ha b hb
     obtain ⟨nl, r, hk, hq, hs⟩ := ih (w + 1, _, (o.take at' ++ [d36 (l.getD w.toNat (.i 0)) x]) ++ o.drop at') ⟨by simp only; omega, by simp only; omega, by simp only [List.length_append, List.length_singleton]; omega, hpw⟩ (by simp only; omega)
     refine ⟨nl, r, hk, hq.trans ?_, hs⟩
     simp only
     have hperm : ((o.take at' ++ [d36 (l.getD w.toNat (.i 0)) x]) ++ o.drop at').Perm (o ++ [d36 (l.getD w.toNat (.i 0)) x]) := by
      rw [List.append_assoc]
      refine (List.perm_middle (l₁ := o.take at') (l₂ := o.drop at')).trans ?_
      rw [List.take_append_drop]
      exact (List.perm_append_singleton _ _).symm
     rw [← List.append_assoc]
     exact hperm.append_right _
   ·refine ⟨f, o, ?_, ?_, h3⟩
    ·simp [b0y, hw]
    ·rw [a1y hw]
     simp [b7C]) N (0, true, []) ⟨by simp, by simp only; omega, by simp, by simp⟩ (by simp only; omega)
 obtain ⟨nl, r, a, b, c⟩ := this
 exact ⟨nl, r, a, by simpa using b, c⟩
theorem a5E {rows : List D} : ∀ {l : List D}, (l.Pairwise fun x y => nmD x ≠ nmD y) → (b7C N rows l).Pairwise fun x y => nmD x ≠ nmD y
 | [], _ => .nil
 | b :: l, h => by
  rw [List.pairwise_cons] at h
  rw [b9s]
  cases erB N rows b with
  | none => exact a5E h.2
  | some x =>
   show (d36 b x :: b7C N rows l).Pairwise _
   rw [List.pairwise_cons]
   refine ⟨fun y hy => ?_, a5E h.2⟩
   unfold b7C at hy
   rw [List.mem_filterMap] at hy
   obtain ⟨c, hc, hy⟩ := hy
   cases hz : erB N rows c with
   | none => rw [hz] at hy; cases hy
   | some z =>
    rw [hz] at hy
    simp only [f6b, f5S] at hy
    subst hy
    exact h.1 c hc
theorem b7D (rows l : List D) : (b7C N rows l).length ≤ l.length := List.length_filterMap_le ..
end Go.Proofs.YtfkkcdapcgimlaaGreatDoor

namespace Go.Proofs.YtfkkcdapcgimlaaGreatDoor
open Go Go.AM Go.Sort
set_option maxRecDepth 100000
set_option maxHeartbeats 4000000
variable {N : Nat}
theorem b7E {x : D} (h : d15 x = 0) : 0 ≤ (x.cell 2).toI ∧ (x.cell 2).toI ≤ 86399999999 := by
 unfold d15 e3D at h
 cases h1 : a8H (x.cell 0).toS with
 | false => rw [h1] at h; cases h
 | true =>
 rw [h1] at h
 cases h2 : inI (x.cell 1).toI 1 5 with
 | false => rw [h2] at h; cases h
 | true =>
 rw [h2] at h
 cases h3 : inI (x.cell 2).toI 0 86399999999 with
 | false => rw [h3] at h; cases h
 | true => unfold inI at h3; simpa using h3
theorem d99 (hN : maxLen < N) {bs l : List D} {f : Bool} (hb : ∀ b ∈ bs, a8j b) (hr : ∀ x ∈ l, b4T x) (hx : ∀ x ∈ l, b9v x = x) (h1 : b0E N bs) (h2 : b1e l) :
  (∃ nl, d3f N l = some (nl, a0C l)) ∧ (∃ nl, c31 N N f l = some (nl, a0C l)) ∧ e8U N (a0C l) bs := by
 have hm : maxLen = 9223372036854775807 := rfl
 have hlen := h2.len
 obtain ⟨s1, s2, s3⟩ := a4X h2.len h2.apart
 obtain ⟨nl, r, r1, r2, r3⟩ := b4W hN N f l (by omega) h2.len hx h2.apart
 have hap := a5n h2.apart (c := cR) (fun x y h => c4r h)
 have e : r = a0C l := b4V d34 r2 s2 r3 s3 hap
 rw [e] at r1
 have hsl : (a0C l).length ≤ maxLen := by rw [s2.length_eq]; omega
 refine ⟨f3V hN h2.len hx h2.apart, ⟨nl, r1⟩, ⟨h1.len, fun b hb' => ?_, fun b hb' => ?_⟩⟩
 ·have hk := h1.each b hb'
  exact d95 hN hsl (fun x hx' => (c7a hN (hb b hb') hk (hr x (s2.mem_iff.1 hx')) (h2.each x (s2.mem_iff.1 hx'))).1) (hk.field.elim (fun h => .inr h.2) (fun h => .inl h.2))
 ·have hk := h1.each b hb'
  rw [e8T hN hsl (fun x hx' => (c7a hN (hb b hb') hk (hr x (s2.mem_iff.1 hx')) (h2.each x (s2.mem_iff.1 hx'))).2)]
  unfold erB
  have hk4 := hk.kind
  have hr4 : f5o (b.cell 1).toI 0 (-1) 0 0 0 (-2) := by
   have := hk.kind
   unfold inI at this
   simp at this
   unfold f5o
   omega
  rw [d96 hk.kind hk.field (a0C l) 0 (-1) 0 0 0 (-2) (fun x hx' => b7E (h2.each x (s2.mem_iff.1 hx'))) hr4]
theorem c9r (hN : maxLen < N) {bs l : List D} {f : Bool} (hb : ∀ b ∈ bs, a8j b) (hr : ∀ x ∈ l, b4T x) (hx : ∀ x ∈ l, b9v x = x) (h1 : b0E N bs) (h2 : b1e l) :
  ∃ nl nl' r, c8M N bs l = some (nl, r) ∧ d9s N bs f l = some (nl', r) ∧ r.Perm (b7C N (a0C l) bs) := by
 have hm : maxLen = 9223372036854775807 := rfl
 obtain ⟨⟨n1, e1⟩, ⟨n2, e2⟩, hk⟩ := d99 hN (f := f) hb hr hx h1 h2
 obtain ⟨n3, e3⟩ := d17 hN hk
 obtain ⟨n4, r, e4, p4, o4⟩ := e8V hN hk
 have hnm := a5E (N := N) (rows := a0C l) h1.apart
 have hl := b7D (N := N) (a0C l) bs
 have hbl := h1.len
 obtain ⟨s1, s2, s3⟩ := a4h (l := b7C N (a0C l) bs) (by omega) hnm
 have hap := a5n hnm (c := cE) (fun x y h => d97 h)
 have e : r = a1U (b7C N (a0C l) bs) := b4V d35 p4 s2 o4 s3 hap
 refine ⟨n3, n4, r, ?_, ?_, p4⟩
 ·unfold c8M c8L
  rw [e1]
  simp only [a0s, f52, f5W, getD_some]
  rw [e3]
  simp only [f52, f5W, getD_some]
  rw [s1, e]
  rfl
 ·unfold d9s d3S
  rw [e2]
  simp only [a0s, f52, f5W, getD_some]
  rw [e4]
  rfl
end Go.Proofs.YtfkkcdapcgimlaaGreatDoor

namespace Go.Proofs.YtfkkcdapcgimlaaGreatDoor
open Go Go.AM Go.Sort
set_option maxRecDepth 100000
set_option maxHeartbeats 4000000
variable {N : Nat}
theorem e8W {x : D} (h : d15 x = 0) : (0 ≤ (x.cell 3).toI ∧ (x.cell 3).toI ≤ 10000000000000) ∧ (0 ≤ (x.cell 4).toI ∧ (x.cell 4).toI ≤ 10000000000000) ∧ (0 ≤ (x.cell 5).toI ∧ (x.cell 5).toI ≤ 10000000000000) ∧ (0 ≤ (x.cell 6).toI ∧ (x.cell 6).toI ≤ 10000000000000) := by
 unfold d15 e3D at h
 cases h1 : a8H (x.cell 0).toS with
 | false => rw [h1] at h; cases h
 | true =>
 rw [h1] at h
 cases h2 : inI (x.cell 1).toI 1 5 with
 | false => rw [h2] at h; cases h
 | true =>
 rw [h2] at h
 cases h3 : (inI (x.cell 2).toI 0 86399999999 && (inI (x.cell 3).toI 0 10000000000000 && inI (x.cell 4).toI 0 10000000000000 && inI (x.cell 5).toI 0 10000000000000 && inI (x.cell 6).toI 0 10000000000000)) with
 | false => rw [h3] at h; cases h
 | true =>
  simp only [inI, f5U, decide_eq_true_eq] at h3
  omega
theorem e5l {x : D} (h : d15 x = 0) : a5e x = (x.cell 2).toI / 86400 := by
 have := b7E h
 unfold a5e
 rw [Int.tdiv_eq_ediv_of_nonneg (by omega), a1g (by omega) (by omega)]
theorem e3O {x : D} {f : Int} (h : d15 x = 0) (hf : f = 0 ∨ inI f 1 7 = true) : 0 ≤ fvF f x ∧ fvF f x ≤ 10000000000000 := by
 have h1 := b7E h
 have h2 := e8W h
 have h3 := e5l h
 unfold a5e at h3
 rcases hf with rfl | hf
 ·have e : fvF 0 x = 1 := rfl
  rw [e]; omega
 ·rcases e3M hf with rfl | rfl | rfl | rfl | rfl | rfl | rfl
  ·have e : fvF 1 x = (x.cell 2).toI := rfl
   rw [e]; omega
  ·have e : fvF 2 x = IntKind.wrap .i64 ((x.cell 2).toI.tdiv 86400) := rfl
   rw [e, h3]; omega
  ·have e : fvF 3 x = (x.cell 3).toI := rfl
   rw [e]; omega
  ·have e : fvF 4 x = (x.cell 4).toI := rfl
   rw [e]; omega
  ·have e : fvF 5 x = (x.cell 5).toI := rfl
   rw [e]; omega
  ·have e : fvF 6 x = (x.cell 6).toI := rfl
   rw [e]; omega
  ·have e : fvF 7 x = (IntKind.wrap .i64 ((x.cell 2).toI.tdiv 86400)).tmod 7 := rfl
   rw [e, h3]
   rw [Int.tmod_eq_emod_of_nonneg (by omega)]
   omega
structure e0a (h la : Int) (L : List D) : Prop where
 h0 : 0 ≤ h
 h1 : h + L.length * 10000000000000 ≤ 50030000000000000
 h2 : L.length ≤ 5001
 l0 : -1 ≤ la
 l1 : la ≤ 1000000
 l2 : ∀ y ∈ L, la ≤ a5e y
structure b98 (fv : D → Int) (L : List D) : Prop where
 num : ∀ y ∈ L, 0 ≤ fv y ∧ fv y ≤ 10000000000000
 day : ∀ y ∈ L, 0 ≤ a5e y ∧ a5e y ≤ 1000000 ∧ a5e y = (y.cell 2).toI / 86400
 up : L.Pairwise fun x y => (x.cell 2).toI ≤ (y.cell 2).toI
theorem b98.tail {fv : D → Int} {x : D} {L : List D} (h : b98 fv (x :: L)) : b98 fv L :=
 ⟨fun y hy => h.num y (by simp [hy]), fun y hy => h.day y (by simp [hy]), (List.pairwise_cons.1 h.up).2⟩
theorem b98.days {fv : D → Int} {x : D} {L : List D} (h : b98 fv (x :: L)) : ∀ y ∈ L, a5e x ≤ a5e y := fun y hy => by
 have a := (h.day x (by simp)).2.2
 have b := (h.day y (by simp [hy])).2.2
 have c := (List.pairwise_cons.1 h.up).1 y hy
 rw [a, b]
 omega
theorem a8k (k fv h la d : Int) : a1b k fv h la d = (fv, la) ∧ k = 3 ∨ k = 4 ∧ d = la ∧ a1b k fv h la d = (h, d) ∨ k = 4 ∧ d ≠ la ∧ 0 ≤ la ∧ d = IntKind.wrap .i64 (la + 1) ∧ a1b k fv h la d = (IntKind.wrap .i64 (h + 1), d) ∨
  k = 4 ∧ d ≠ la ∧ ¬ (0 ≤ la ∧ d = IntKind.wrap .i64 (la + 1)) ∧ a1b k fv h la d = (1, d) ∨ k ≠ 3 ∧ k ≠ 4 ∧ a1b k fv h la d = (IntKind.wrap .i64 (h + fv), la) := by
 unfold a1b
 by_cases k3 : k = 3
 ·left; simp [k3]
 ·by_cases k4 : k = 4
  ·subst k4
   by_cases hd : d = la
   ·right; left; simp [hd]
   ·by_cases hc : 0 ≤ la ∧ d = IntKind.wrap .i64 (la + 1)
    ·right; right; left
     refine ⟨rfl, hd, hc.1, hc.2, ?_⟩
     have q1 : (d == la) = false := by simp [hd]
     have q2 : (bif decide (la ≥ 0) then d == IntKind.wrap .i64 (la + 1) else false) = true := by
      rw [decide_eq_true (show la ≥ 0 from hc.1), ← hc.2]; simp
     rw [q1, q2]; rfl
    ·right; right; right; left
     refine ⟨rfl, hd, hc, ?_⟩
     have q1 : (d == la) = false := by simp [hd]
     have q2 : (bif decide (la ≥ 0) then d == IntKind.wrap .i64 (la + 1) else false) = false := by
      by_cases q : 0 ≤ la
      ·rw [decide_eq_true (show la ≥ 0 from q)]
       have : d ≠ IntKind.wrap .i64 (la + 1) := fun e => hc ⟨q, e⟩
       simp [this]
      ·rw [decide_eq_false (show ¬ la ≥ 0 from q)]; rfl
     rw [q1, q2]; rfl
  ·right; right; right; right
   have q1 : (k == 3) = false := by simp [k3]
   have q2 : (k == 4) = false := by simp [k4]
   exact ⟨k3, k4, by rw [q1, q2]; rfl⟩
theorem b7F {fv : D → Int} {k h la : Int} {x : D} {L : List D} (hg : b98 fv (x :: L)) (hi : e0a h la (x :: L)) : e0a (a1b k (fv x) h la (a5e x)).1 (a1b k (fv x) h la (a5e x)).2 L := by
 obtain ⟨a0, a1, a2, b0, b1, b2⟩ := hi
 have hn := hg.num x (by simp)
 have hd := hg.day x (by simp)
 have hds := hg.days
 simp only [List.length_cons] at a1 a2
 have hl : ∀ y ∈ L, la ≤ a5e y := fun y hy => b2 y (by simp [hy])
 rcases a8k k (fv x) h la (a5e x) with ⟨e, _⟩ | ⟨_, _, e⟩ | ⟨_, _, _, _, e⟩ | ⟨_, _, _, e⟩ | ⟨_, _, e⟩ <;> rw [e]
 ·exact ⟨hn.1, by omega, by omega, b0, b1, hl⟩
 ·exact ⟨a0, by omega, by omega, by simp only; omega, hd.2.1, hds⟩
 ·rw [a1g (by omega) (by omega)]
  exact ⟨by simp only; omega, by simp only; omega, by omega, by simp only; omega, hd.2.1, hds⟩
 ·exact ⟨by simp only; omega, by simp only; omega, by omega, by simp only; omega, hd.2.1, hds⟩
 ·rw [a1g (by omega) (by omega)]
  exact ⟨by simp only; omega, by simp only; omega, by omega, b0, b1, hl⟩
def e0b (k h la h' la' : Int) : Prop := k = 3 ∨ k = 4 ∧ (la = la' ∧ h ≤ h' ∨ la < la' ∧ 1 ≤ h' ∧ (la' = la + 1 → 0 ≤ la → h + 1 ≤ h')) ∨ k ≠ 3 ∧ k ≠ 4 ∧ h ≤ h'
theorem d37 {fv : D → Int} {k h la h' la' : Int} {x : D} {L : List D} (hg : b98 fv (x :: L)) (hi : e0a h la (x :: L)) (hi' : e0a h' la' (x :: L)) (ha : e0b k h la h' la') :
  e0b k (a1b k (fv x) h la (a5e x)).1 (a1b k (fv x) h la (a5e x)).2 (a1b k (fv x) h' la' (a5e x)).1 (a1b k (fv x) h' la' (a5e x)).2 ∧ (a1b k (fv x) h la (a5e x)).1 ≤ (a1b k (fv x) h' la' (a5e x)).1 := by
 obtain ⟨a0, a1, a2, b0, b1, b2⟩ := hi
 obtain ⟨a0', a1', a2', b0', b1', b2'⟩ := hi'
 have hn := hg.num x (by simp)
 have hd := hg.day x (by simp)
 have hx := b2 x (by simp)
 have hx' := b2' x (by simp)
 simp only [List.length_cons] at a1 a2 a1' a2'
 have w1 : IntKind.wrap .i64 (la + 1) = la + 1 := a1g (by omega) (by omega)
 have w2 : IntKind.wrap .i64 (la' + 1) = la' + 1 := a1g (by omega) (by omega)
 have w3 : IntKind.wrap .i64 (h + 1) = h + 1 := a1g (by omega) (by omega)
 have w4 : IntKind.wrap .i64 (h' + 1) = h' + 1 := a1g (by omega) (by omega)
 have w5 : IntKind.wrap .i64 (h + fv x) = h + fv x := a1g (by omega) (by omega)
 have w6 : IntKind.wrap .i64 (h' + fv x) = h' + fv x := a1g (by omega) (by omega)
 have c1 := a8k k (fv x) h la (a5e x)
 have c2 := a8k k (fv x) h' la' (a5e x)
 rw [w1, w3, w5] at c1
 rw [w2, w4, w6] at c2
 generalize a5e x = d at *
 generalize fv x = n at *
 generalize a1b k n h la d = s at *
 generalize a1b k n h' la' d = s' at *
 obtain ⟨s1, s2⟩ := s
 obtain ⟨t1, t2⟩ := s'
 simp only [f6a] at c1 c2 ⊢
 unfold e0b at *
 omega
theorem c4s {hb : D → Bool} {fv : D → Int} {k n : Int} : ∀ {L : List D} {h la : Int} {z : D}, goP hb fv k n h la L = some z → z ∈ L
 | [], _, _, _, h => by cases h
 | x :: L, h, la, z, e => by
  simp only [goP] at e
  cases hx : hb x with
  | false => rw [hx] at e; exact List.mem_cons_of_mem _ (c4s (L := L) e)
  | true =>
   rw [hx] at e
   simp only [Bool.not_true, f5X] at e
   cases hc : decide ((a1b k (fv x) h la (a5e x)).1 ≥ n) with
   | true => rw [hc] at e; cases e; exact List.mem_cons_self
   | false => rw [hc] at e; exact List.mem_cons_of_mem _ (c4s (L := L) e)
theorem b9t {hb : D → Bool} {fv : D → Int} {k n : Int} : ∀ {L : List D} {h la h' la' : Int} {z : D}, b98 fv L → e0a h la L → e0a h' la' L → e0b k h la h' la' → goP hb fv k n h la L = some z → ∃ z', goP hb fv k n h' la' L = some z' ∧ (z'.cell 2).toI ≤ (z.cell 2).toI
 | [], _, _, _, _, _, _, _, _, _, e => by cases e
 | x :: L, h, la, h', la', z, hg, hi, hi', ha, e => by
  simp only [goP] at e ⊢
  have tl : ∀ {a b : Int}, e0a a b (x :: L) → e0a a b L := fun ⟨q0, q1, q2, q3, q4, q5⟩ => by
   simp only [List.length_cons] at q1 q2
   exact ⟨q0, by omega, by omega, q3, q4, fun y hy => q5 y (by simp [hy])⟩
  cases hx : hb x with
  | false => rw [hx] at e; exact b9t (L := L) hg.tail (tl hi) (tl hi') ha e
  | true =>
   rw [hx] at e
   simp only [Bool.not_true, f5X] at e ⊢
   obtain ⟨s1, s2⟩ := d37 hg hi hi' ha
   cases hc' : decide ((a1b k (fv x) h' la' (a5e x)).1 ≥ n) with
   | true =>
    refine ⟨x, rfl, ?_⟩
    cases hc : decide ((a1b k (fv x) h la (a5e x)).1 ≥ n) with
    | true => rw [hc] at e; cases e; exact Int.le_refl _
    | false =>
     rw [hc] at e
     exact (List.pairwise_cons.1 hg.up).1 z (c4s (L := L) e)
   | false =>
    have hc : decide ((a1b k (fv x) h la (a5e x)).1 ≥ n) = false := by
     rw [decide_eq_false_iff_not] at hc' ⊢
     omega
    rw [hc] at e
    exact b9t (L := L) hg.tail (b7F hg hi) (b7F hg hi') s1 e
theorem c4t {hb : D → Bool} {fv : D → Int} {k n : Int} {r : D} {B : List D} : ∀ {A : List D} {h la : Int} {z : D}, b98 fv (A ++ r :: B) → e0a h la (A ++ r :: B) → goP hb fv k n h la (A ++ B) = some z → ∃ z', goP hb fv k n h la (A ++ r :: B) = some z' ∧ (z'.cell 2).toI ≤ (z.cell 2).toI
 | [], h, la, z, hg, hi, e => by
  simp only [List.nil_append] at hg hi e ⊢
  simp only [goP]
  have hb' : e0a h la B := by
   obtain ⟨q0, q1, q2, q3, q4, q5⟩ := hi
   simp only [List.length_cons] at q1 q2
   exact ⟨q0, by omega, by omega, q3, q4, fun y hy => q5 y (by simp [hy])⟩
  cases hx : hb r with
  | false => exact ⟨z, e, Int.le_refl _⟩
  | true =>
   simp only [Bool.not_true, f5X]
   cases hc : decide ((a1b k (fv r) h la (a5e r)).1 ≥ n) with
   | true => exact ⟨r, rfl, (List.pairwise_cons.1 hg.up).1 z (c4s e)⟩
   | false =>
    refine b9t hg.tail hb' (b7F hg hi) ?_ e
    obtain ⟨q0, q1, q2, q3, q4, q5⟩ := hi
    have hr := q5 r (by simp)
    have hn := hg.num r (by simp)
    have hd := hg.day r (by simp)
    simp only [List.length_cons] at q1 q2
    have w1 : IntKind.wrap .i64 (la + 1) = la + 1 := a1g (by omega) (by omega)
    have w3 : IntKind.wrap .i64 (h + 1) = h + 1 := a1g (by omega) (by omega)
    have w5 : IntKind.wrap .i64 (h + fv r) = h + fv r := a1g (by omega) (by omega)
    have c1 := a8k k (fv r) h la (a5e r)
    rw [w1, w3, w5] at c1
    generalize a5e r = d at *
    generalize fv r = m at *
    generalize a1b k m h la d = s at *
    obtain ⟨s1, s2⟩ := s
    simp only [f6a] at c1 ⊢
    unfold e0b
    omega
 | x :: A, h, la, z, hg, hi, e => by
  simp only [List.cons_append] at hg hi e ⊢
  simp only [goP] at e ⊢
  have tl : e0a h la (A ++ r :: B) := by
   obtain ⟨q0, q1, q2, q3, q4, q5⟩ := hi
   simp only [List.length_cons] at q1 q2
   exact ⟨q0, by omega, by omega, q3, q4, fun y hy => q5 y (List.mem_cons_of_mem _ hy)⟩
  cases hx : hb x with
  | false => rw [hx] at e; exact c4t (A := A) hg.tail tl e
  | true =>
   rw [hx] at e
   simp only [Bool.not_true, f5X] at e ⊢
   cases hc : decide ((a1b k (fv x) h la (a5e x)).1 ≥ n) with
   | true => rw [hc] at e; exact ⟨z, e, Int.le_refl _⟩
   | false => rw [hc] at e; exact c4t (A := A) hg.tail (b7F hg hi) e
end Go.Proofs.YtfkkcdapcgimlaaGreatDoor

namespace Go.Proofs.YtfkkcdapcgimlaaGreatDoor
open Go Go.AM Go.Sort
set_option maxRecDepth 100000
set_option maxHeartbeats 4000000
variable {N : Nat}
theorem e0c {l : List D} {r : D} (h1 : b1e l) (h2 : b1e (l ++ [r])) : ∃ A B, a0C l = A ++ B ∧ a0C (l ++ [r]) = A ++ r :: B := by
 obtain ⟨_, p1, o1⟩ := a4X h1.len h1.apart
 obtain ⟨_, p2, o2⟩ := a4X h2.len h2.apart
 have hr : r ∈ a0C (l ++ [r]) := p2.mem_iff.2 (by simp)
 obtain ⟨A, B, e⟩ := List.append_of_mem hr
 refine ⟨A, B, ?_, e⟩
 have hp : (A ++ B).Perm l := by
  have q : (A ++ r :: B).Perm (l ++ [r]) := e ▸ p2
  have q1 : (r :: (A ++ B)).Perm (r :: l) := (List.perm_middle.symm.trans q).trans (List.perm_append_singleton r l)
  exact (List.perm_cons r).1 q1
 have ho : (A ++ B).Pairwise fun x y => leO cR x y = true := by
  rw [e] at o2
  exact o2.sublist (List.Sublist.append_left (List.sublist_cons_self r B) A)
 exact b4V d34 p1 hp o1 ho (a5n h1.apart (c := cR) (fun x y h => c4r h))
theorem e0d {l : List D} (h : l.Pairwise fun x y => leO cR x y = true) : l.Pairwise fun x y => (x.cell 2).toI ≤ (y.cell 2).toI := by
 refine h.imp fun {x y} hxy => ?_
 rw [a9G d34] at hxy
 unfold cR lex Lib.compareInt at hxy
 by_cases q : (x.cell 2).toI ≤ (y.cell 2).toI
 ·exact q
 ·have q1 : ¬ (x.cell 2).toI < (y.cell 2).toI := by omega
  have q2 : (x.cell 2).toI > (y.cell 2).toI := by omega
  simp [q1, q2] at hxy
theorem e3P {l : List D} {r b : D} {z : D} (hk : c9q N b) (h1 : b1e l) (h2 : b1e (l ++ [r])) (e : erB N (a0C l) b = some z) : ∃ z', erB N (a0C (l ++ [r])) b = some z' ∧ (z'.cell 2).toI ≤ (z.cell 2).toI := by
 obtain ⟨A, B, e1, e2⟩ := e0c h1 h2
 obtain ⟨_, p2, o2⟩ := a4X h2.len h2.apart
 have hlen := h2.len
 have hf : (b.cell 2).toI = 0 ∨ inI (b.cell 2).toI 1 7 = true := hk.field.elim (fun h => .inr h.2) (fun h => .inl h.2)
 have hrow : ∀ y ∈ A ++ r :: B, d15 y = 0 := fun y hy => h2.each y (p2.mem_iff.1 (e2 ▸ hy))
 have hl : (A ++ r :: B).length = (l ++ [r]).length := by rw [← e2, p2.length_eq]
 have hg : b98 (fvF (b.cell 2).toI) (A ++ r :: B) := ⟨fun y hy => e3O (hrow y hy) hf, fun y hy => by
  have := b7E (hrow y hy)
  rw [e5l (hrow y hy)]
  omega, e0d (e2 ▸ o2)⟩
 unfold erB at e ⊢
 rw [e1] at e
 rw [e2]
 refine c4t hg ⟨by omega, by omega, by omega, by omega, by omega, fun y hy => ?_⟩ e
 have := (hg.day y hy).1
 omega
theorem f3X (hN : maxLen < N) {l : List D} (hl : l.length ≤ maxLen) {s : List UInt8} (hs : ∃ y ∈ l, nmD y = s) : ∃ i : Nat, i < l.length ∧ nmD (l.getD i (.i 0)) = s ∧ d9A N l s = some (i : Int) := by
 have hm : maxLen = 9223372036854775807 := rfl
 have h : ∃ i : Nat, i < l.length ∧ nmD (l.getD i (.i 0)) = s ∧ d9y N l (l.length : Int) s 0 = some (.inl (i : Int)) := by
  have := a1P (A := Int) (S := fun w kr => b9l N l (l.length : Int) s w kr _ _) (L := fun f w => c4e N l (l.length : Int) s f w (fun p => some (Sum.inl p)) (fun p => some (Sum.inr p))) (fun f a => rfl)
   (fun w X => ∃ i : Nat, i < l.length ∧ nmD (l.getD i (.i 0)) = s ∧ X = some (.inl (i : Int)))
   (fun w => 0 ≤ w ∧ w ≤ l.length ∧ ∃ y ∈ l.drop w.toNat, nmD y = s) (fun w => (l.length - w).toNat) (fun w kr ⟨h0, h1, y, h2, h3⟩ ih => by
    have hw : w < l.length := by
     by_cases hw : w < l.length
     ·exact hw
     ·rw [a1y hw] at h2; cases h2
    rw [a2w (.i 0 : D) h0 hw] at h2
    simp only [b9l, decide_eq_true hw, f5W, a1u h0 hw, a0s, e3q, d3U]
    rw [a1g (by omega) (by omega)]
    cases hc : nmD (l.getD w.toNat (.i 0)) == s with
    | true => exact ⟨w.toNat, by omega, by simpa using hc, by simp only [f5W]; congr 2; omega⟩
    | false =>
     refine ih (w + 1) ⟨by omega, by omega, y, ?_, h3⟩ (by omega)
     rcases f59.1 h2 with h2 | h2
     ·rw [h2] at h3; rw [h3] at hc; simp at hc
     ·exact h2) N 0 ⟨by omega, by omega, by simpa using hs⟩ (by omega)
  exact this
 obtain ⟨i, i1, i2, i3⟩ := h
 refine ⟨i, i1, i2, ?_⟩
 unfold d9A d3W
 rw [i3]
 rfl
theorem c9s (hN : maxLen < N) {bs l : List D} (hb : ∀ b ∈ bs, a8j b) (hr : ∀ x ∈ l, b4T x) (hx : ∀ x ∈ l, b9v x = x) (h1 : b0E N bs) (h2 : b1e l) : ∃ nl, c8M N bs l = some (nl, a1U (b7C N (a0C l) bs)) := by
 obtain ⟨⟨n1, e1⟩, _, hk⟩ := d99 hN (f := false) hb hr hx h1 h2
 obtain ⟨n3, e3⟩ := d17 hN hk
 have hnm := a5E (N := N) (rows := a0C l) h1.apart
 have hl := b7D (N := N) (a0C l) bs
 have hbl := h1.len
 obtain ⟨s1, s2, s3⟩ := a4h (l := b7C N (a0C l) bs) (by omega) hnm
 refine ⟨n3, ?_⟩
 unfold c8M c8L
 rw [e1]
 simp only [a0s, f52, f5W, getD_some]
 rw [e3]
 simp only [f52, f5W, getD_some]
 rw [s1]
 rfl
theorem e5m (hN : maxLen < N) {bs l : List D} (hbl : bs.length ≤ maxLen) (hll : l.length ≤ maxLen) (hb : ∀ b ∈ bs, a8j b) (hr : ∀ x ∈ l, b4T x) (hx : ∀ x ∈ l, b9v x = x) :
  ∃ nl r e, c6x N bs l = some (nl, r, e) ∧ (∃ nl' r', c9f N bs false l = some (nl', r', e)) ∧ (∀ f, ∃ nl' r', c9f N bs f l = some (nl', r', e)) ∧ (e = 0 → b0E N bs ∧ b1e l ∧ r = a1U (b7C N (a0C l) bs)) := by
 obtain ⟨e1, a1, a2, a3⟩ := c67 hN hbl hb
 obtain ⟨e2, b1, b2, b3⟩ := d33 hN hll hr
 have hm : maxLen = 9223372036854775807 := rfl
 have key : ∀ f, ∃ nl' r' , c9f N bs f l = some (nl', r', bif e1 != 0 then e1 else e2) := fun f => by
  unfold c9f d3T
  rw [a2, b2]
  simp only [a0s, f52, f5W, getD_some]
  cases h1 : e1 != 0 with
  | true => exact ⟨_, _, rfl⟩
  | false =>
   simp only [f5X]
   cases h2 : e2 != 0 with
   | true => exact ⟨_, _, rfl⟩
   | false =>
    have h1 : e1 = 0 := by simpa using h1
    have h2 : e2 = 0 := by simpa using h2
    obtain ⟨nl, nl', r, r1, r2, r3⟩ := c9r hN (f := f) hb hr hx (a3 h1) (b3 h2)
    simp only [f5X]
    rw [r2, h2]
    exact ⟨_, _, rfl⟩
 have hmain : ∃ nl r, c6x N bs l = some (nl, r, bif e1 != 0 then e1 else e2) ∧ ((bif e1 != 0 then e1 else e2) = 0 → b0E N bs ∧ b1e l ∧ r = a1U (b7C N (a0C l) bs)) := by
  unfold c6x d3p
  rw [a1, b1]
  simp only [a0s, f52, f5W, getD_some]
  rw [e3G (by omega)]
  simp only [f52, f5W, getD_some]
  cases h : (bif e1 != 0 then e1 else e2) != 0 with
  | true => exact ⟨_, _, rfl, fun h0 => by rw [h0] at h; cases h⟩
  | false =>
   have h0 : (bif e1 != 0 then e1 else e2) = 0 := by simpa using h
   have h12 : e1 = 0 ∧ e2 = 0 := by
    cases h1 : e1 != 0 with
    | true => rw [h1] at h0; simp only [f5W] at h0; rw [h0] at h1; cases h1
    | false => rw [h1] at h0; simp only [f5X] at h0; exact ⟨by simpa using h1, h0⟩
   obtain ⟨nl, r1⟩ := c9s hN hb hr hx (a3 h12.1) (b3 h12.2)
   simp only [f5X]
   rw [r1, h0]
   exact ⟨nl, _, rfl, fun _ => ⟨a3 h12.1, b3 h12.2, rfl⟩⟩
 obtain ⟨nl, r, m1, m2⟩ := hmain
 exact ⟨nl, r, _, m1, key false, key, m2⟩
theorem e8X {n : Nat} (h : n ≤ 1048576) : (decide ((n + 1) * 88 ≤ b1h) && decide ((n + 1) ≤ a0U)) = true := by
 have h1 : b1h = 140737488355328 := rfl
 have h2 : a0U = 9223372036854775807 := rfl
 rw [f5U, decide_eq_true_eq, decide_eq_true_eq]; omega
theorem e8Y {n : Nat} (h : n ≤ 1048576) : (decide ((0 + n) * 88 ≤ b1h) && decide ((0 + n) ≤ a0U)) = true := by
 have h1 : b1h = 140737488355328 := rfl
 have h2 : a0U = 9223372036854775807 := rfl
 rw [f5U, decide_eq_true_eq, decide_eq_true_eq]; omega
theorem f5L (hN : maxLen < N) {bs l : List D} {f : Bool} {t : List UInt8} {p1 p2 p3 p4 p5 p6 : Int} {nl : Bool} {ys : List D} (hbl : bs.length ≤ maxLen) (hll : l.length ≤ 1048576) (hnil : f = true → l = []) (hb : ∀ b ∈ bs, a8j b) (hr : ∀ x ∈ l, b4T x) (hx : ∀ x ∈ l, b9v x = x)
  (hr' : b4T (.a [.s t, .i p1, .i p2, .i p3, .i p4, .i p5, .i p6, .l nl ys])) (hx' : b9v (.a [.s t, .i p1, .i p2, .i p3, .i p4, .i p5, .i p6, .l nl ys]) = .a [.s t, .i p1, .i p2, .i p3, .i p4, .i p5, .i p6, .l nl ys]) : f3s N bs f l t p1 p2 p3 p4 p5 p6 nl ys = some true := by
 have hm : maxLen = 9223372036854775807 := rfl
 obtain ⟨n1, r1, e1, a1, _, a2, a3⟩ := e5m hN hbl (by omega) hb hr hx
 generalize hrd : D.a [.s t, .i p1, .i p2, .i p3, .i p4, .i p5, .i p6, .l nl ys] = rd at hr' hx'
 have hr2 : ∀ x ∈ l ++ [rd], b4T x := fun x h => (List.mem_append.1 h).elim (hr x) (fun h => by simp only [List.mem_singleton] at h; rw [h]; exact hr')
 have hx2 : ∀ x ∈ l ++ [rd], b9v x = x := fun x h => (List.mem_append.1 h).elim (hx x) (fun h => by simp only [List.mem_singleton] at h; rw [h]; exact hx')
 obtain ⟨n2, r2, e2, b1, _, _, b3⟩ := e5m hN hbl (by rw [List.length_append, List.length_singleton]; omega) hb hr2 hx2
 have h7 : c6Z N bs f l t p1 p2 p3 p4 p5 p6 nl ys = some (n2, r2, e2) := by
  unfold c6Z c6Y e2I d3q
  rw [hrd]
  cases f with
  | true =>
   rw [hnil rfl] at b1
   simp only [List.nil_append] at b1
   simp only [f5W, a0s, b6k]
   rw [b1]
   rfl
  | false =>
   rw [e8Y hll, e8X hll]
   simp only [f5W, f5X, a0s, a9V, a9W, f52]
   rw [b1]
   rfl
 unfold f3s f3r
 rw [a1, h7]
 simp only [a0s, f52, f5W, getD_some]
 cases hc : (bif e1 != 0 then true else e2 != 0) with
 | true =>
  obtain ⟨n3, r3, c1⟩ := a2 f
  simp only [f5W]
  rw [c1]
  simp only [f52, f5W, getD_some]
  unfold c4g b4Q
  simp
 | false =>
  have h12 : e1 = 0 ∧ e2 = 0 := by
   cases h1 : e1 != 0 with
   | true => rw [h1] at hc; cases hc
   | false => rw [h1] at hc; exact ⟨by simpa using h1, by simpa using hc⟩
  obtain ⟨k1, k2, k3⟩ := a3 h12.1
  obtain ⟨_, k4, k5⟩ := b3 h12.2
  have hbl5 := k1.len
  have hnm1 := a5E (N := N) (rows := a0C l) k1.apart
  have hnm2 := a5E (N := N) (rows := a0C (l ++ [rd])) k1.apart
  have hl1 := b7D (N := N) (a0C l) bs
  have hl2 := b7D (N := N) (a0C (l ++ [rd])) bs
  obtain ⟨_, s2, _⟩ := a4h (l := b7C N (a0C l) bs) (by omega) hnm1
  obtain ⟨_, t2, _⟩ := a4h (l := b7C N (a0C (l ++ [rd])) bs) (by omega) hnm2
  rw [← k3] at s2
  rw [← k5] at t2
  have hr1l : r1.length ≤ maxLen := by rw [s2.length_eq]; omega
  have hr2l : r2.length ≤ maxLen := by rw [t2.length_eq]; omega
  have hloop : c9h N r2 r1 (r1.length : Int) 0 = some (.inr ()) := by
   unfold c9h
   refine (e8P (S := fun w kr => b4S N r2 r1 (r1.length : Int) w kr _ _) (L := fun m w => c4h N r2 r1 (r1.length : Int) m w _ _) (fun m w => rfl) (fun _ r => some (.inr ())) hr1l ?_ ?_ hN).trans rfl
   ·intro kr; simp [b4S]
   ·intro w kr x r hx' h0 h1 hw hi hg hd hk
    have hxm := s2.mem_iff.1 hx'
    unfold b7C at hxm
    rw [List.mem_filterMap] at hxm
    obtain ⟨b, hb', he⟩ := hxm
    cases hz : erB N (a0C l) b with
    | none => rw [hz] at he; cases he
    | some z =>
    rw [hz] at he
    simp only [f6b, f5S] at he
    obtain ⟨z', hz', hle⟩ := e3P (k1.each b hb') k2 k4 hz
    have hin : d36 b z' ∈ r2 := by
     refine t2.mem_iff.2 ?_
     unfold b7C
     rw [List.mem_filterMap]
     exact ⟨b, hb', by rw [hz']; rfl⟩
    have hxn : nmD x = nmD b := by rw [← he]; rfl
    have hxs : (x.cell 2).toI = (z.cell 2).toI := by rw [← he]; rfl
    obtain ⟨i, i1, i2, i3⟩ := f3X hN hr2l (s := nmD x) ⟨d36 b z', hin, by rw [hxn]; rfl⟩
    have hgi : r2.getD i (.i 0) ∈ r2 := by
     rw [f51, f58 i1]; exact List.getElem_mem i1
    have hsame : r2.getD i (.i 0) = d36 b z' := by
     refine a5n (c := fun x y => if nmD x = nmD y then 0 else 1) hnm2 (fun x y h => by
      by_cases q : nmD x = nmD y
      ·exact q
      ·simp [q] at h) _ (t2.mem_iff.1 hgi) _ (t2.mem_iff.1 hin) ?_
     have : nmD (r2.getD i (.i 0)) = nmD (d36 b z') := by rw [i2, hxn]; rfl
     simp only [this, if_true]
    have hst : ((r2.getD i (.i 0)).cell 2).toI = (z'.cell 2).toI := by rw [hsame]; rfl
    have h31 : b9n N r2 (i : Int) (x.cell 2).toI = some false := by
     unfold b9n b4R
     rw [decide_eq_false (by omega), a1u (by omega) (by omega)]
     have hn : ¬ ((r2.getD i (.i 0)).cell 2).toI > (x.cell 2).toI := by rw [hst, hxs]; omega
     show some (decide (((r2.getD i (.i 0)).cell 2).toI > (x.cell 2).toI)) = some false
     rw [decide_eq_false hn]
    simp only [b4S, decide_eq_true h1, f5W, hi, hw, hg, a0s]
    rw [i3]
    simp only [f52, f5W, getD_some]
    rw [h31]
    simp [hk]
  simp only [f5X]
  rw [hloop]
  rfl
end Go.Proofs.YtfkkcdapcgimlaaGreatDoor

namespace Go.Proofs.YtfkkcdapcgimlaaGreatDoor
open Go Go.AM
set_option maxRecDepth 100000
set_option maxHeartbeats 4000000
theorem d18 : kinds Tryz.prog 40 = [.str, .int .i64, .int .i64, .int .i64, .int .i64, .int .i64, .int .i64, .sl 9] := by kernel_rfl
theorem e8Z : kinds Tryz.prog 52 = [.str, .int .i64, .int .i64, .int .i64, .int .i64, .int .i64, .int .i64, .int .i64, .str, .sl 24] := by kernel_rfl
theorem e80 : kinds Tryz.prog 42 = [.sl 52] := by kernel_rfl
theorem e81 : kinds Tryz.prog 28 = [.sl 40] := by kernel_rfl
theorem f5r : a0j Tryz.prog 52 = true := by kernel_rfl
theorem f3Y : a0j Tryz.prog 40 = true := by kernel_rfl
theorem f3Z : kinds Tryz.prog 9 = [.str] := by kernel_rfl
theorem f5M : a0j Tryz.prog 9 = false := by kernel_rfl
theorem d4c {m : Nat} {k : IntKind} {d : D} (h : TyK Tryz.prog m (.int k) d) : ∃ i, d = .i i := by
 cases m with
 | zero => exact h.elim
 | succ m => obtain ⟨i, h1, _⟩ := h; exact ⟨i, h1⟩
theorem f30 {m : Nat} {d : D} (h : TyK Tryz.prog m .str d) : ∃ s, d = .s s ∧ s.length ≤ maxLen := by
 cases m with
 | zero => exact h.elim
 | succ m => exact h
theorem sl1 {m : Nat} {e : TypeId} {d : D} (h : TyK Tryz.prog m (.sl e) d) : ∃ nl xs, d = .l nl xs ∧ xs.length ≤ maxLen ∧ ∀ x ∈ xs, ∃ m', c7K Tryz.prog (TyK Tryz.prog m') e x := by
 cases m with
 | zero => exact h.elim
 | succ m => obtain ⟨nl, xs, h1, _, h2, h3⟩ := h; exact ⟨nl, xs, h1, h2, fun x hx => ⟨m, h3 x hx⟩⟩
theorem f5s {m : Nat} {x : D} (h : c7K Tryz.prog (TyK Tryz.prog m) 9 x) : x.toS.length ≤ maxLen := by
 unfold c7K at h
 rw [if_neg (by rw [f5M]; simp)] at h
 obtain ⟨k, h1, h2⟩ := h
 rw [f3Z] at h1
 simp only [List.cons.injEq, and_true] at h1
 subst h1
 obtain ⟨s, rfl, hs⟩ := f30 h2
 exact hs
theorem e5n {m : Nat} {cs : List D} (h : a0B (TyK Tryz.prog m) (kinds Tryz.prog 40) cs) : b4T (.a cs) ∧ b9v (.a cs) = .a cs := by
 rw [d18] at h
 obtain ⟨_, _, rfl, g0, h⟩ := a0H h
 obtain ⟨_, _, rfl, g1, h⟩ := a0H h
 obtain ⟨_, _, rfl, g2, h⟩ := a0H h
 obtain ⟨_, _, rfl, g3, h⟩ := a0H h
 obtain ⟨_, _, rfl, g4, h⟩ := a0H h
 obtain ⟨_, _, rfl, g5, h⟩ := a0H h
 obtain ⟨_, _, rfl, g6, h⟩ := a0H h
 obtain ⟨_, _, rfl, g7, h⟩ := a0H h
 obtain rfl := b2n h
 obtain ⟨s, rfl, hs⟩ := f30 g0
 obtain ⟨a, rfl⟩ := d4c g1
 obtain ⟨b, rfl⟩ := d4c g2
 obtain ⟨c, rfl⟩ := d4c g3
 obtain ⟨d, rfl⟩ := d4c g4
 obtain ⟨e, rfl⟩ := d4c g5
 obtain ⟨f, rfl⟩ := d4c g6
 obtain ⟨nl, xs, rfl, hl, hx⟩ := sl1 g7
 refine ⟨⟨hs, hl, fun j => ?_⟩, rfl⟩
 show ((xs.getD j (.i 0)).toS).length ≤ maxLen
 by_cases hj : j < xs.length
 ·obtain ⟨m', hm⟩ := hx (xs.getD j (.i 0)) (by rw [f51, f58 hj]; exact List.getElem_mem hj)
  exact f5s hm
 ·rw [f51, List.getElem?_eq_none (by omega)]
  exact Nat.zero_le _
theorem f31 {m : Nat} {e : TypeId} {nl : Bool} {xs : List D} (h : TyK Tryz.prog m (.sl e) (.l nl xs)) : nl = true → xs = [] := by
 cases m with
 | zero => exact h.elim
 | succ m => obtain ⟨nl', xs', h1, h2, _⟩ := h; cases h1; exact h2
theorem e82 {m : Nat} {ds : List D} (h : b8x Tryz.prog m 28 ds) : ∃ nl xs, ds = [.l nl xs] ∧ xs.length ≤ maxLen ∧ (∀ x ∈ xs, b4T x) ∧ (∀ x ∈ xs, b9v x = x) ∧ (nl = true → xs = []) := by
 unfold b8x at h
 rw [e81] at h
 obtain ⟨_, _, rfl, g0, h⟩ := a0H h
 obtain rfl := b2n h
 have g0' := g0
 obtain ⟨nl, xs, rfl, hl, hx⟩ := sl1 g0
 have e : ∀ x ∈ xs, b4T x ∧ b9v x = x := fun x hx' => by
  obtain ⟨m', hm⟩ := hx x hx'
  unfold c7K at hm
  rw [if_pos f3Y] at hm
  obtain ⟨cs, rfl, hm⟩ := hm
  exact e5n hm
 exact ⟨nl, xs, rfl, hl, fun x hx' => (e x hx').1, fun x hx' => (e x hx').2, f31 g0'⟩
theorem e83 {m : Nat} {ds : List D} (h : b8x Tryz.prog m 40 ds) : ∃ t p1 p2 p3 p4 p5 p6 nl ys, ds = [.s t, .i p1, .i p2, .i p3, .i p4, .i p5, .i p6, .l nl ys] ∧ b4T (.a ds) ∧ b9v (.a ds) = .a ds := by
 have h' := e5n h
 unfold b8x at h
 rw [d18] at h
 obtain ⟨_, _, rfl, g0, h⟩ := a0H h
 obtain ⟨_, _, rfl, g1, h⟩ := a0H h
 obtain ⟨_, _, rfl, g2, h⟩ := a0H h
 obtain ⟨_, _, rfl, g3, h⟩ := a0H h
 obtain ⟨_, _, rfl, g4, h⟩ := a0H h
 obtain ⟨_, _, rfl, g5, h⟩ := a0H h
 obtain ⟨_, _, rfl, g6, h⟩ := a0H h
 obtain ⟨_, _, rfl, g7, h⟩ := a0H h
 obtain rfl := b2n h
 obtain ⟨s, rfl, hs⟩ := f30 g0
 obtain ⟨a, rfl⟩ := d4c g1
 obtain ⟨b, rfl⟩ := d4c g2
 obtain ⟨c, rfl⟩ := d4c g3
 obtain ⟨d, rfl⟩ := d4c g4
 obtain ⟨e, rfl⟩ := d4c g5
 obtain ⟨f, rfl⟩ := d4c g6
 obtain ⟨nl, xs, rfl, hl, hx⟩ := sl1 g7
 exact ⟨s, a, b, c, d, e, f, nl, xs, rfl, h'⟩
theorem e0e {m : Nat} {ds : List D} (h : b8x Tryz.prog m 42 ds) (hsz : a3k ds ≤ 1048576) : ∃ nl xs, ds = [.l nl xs] ∧ xs.length ≤ maxLen ∧ ∀ x ∈ xs, a8j x := by
 unfold b8x at h
 rw [e80] at h
 obtain ⟨_, _, rfl, g0, h⟩ := a0H h
 obtain rfl := b2n h
 obtain ⟨nl, xs, rfl, hl, hx⟩ := sl1 g0
 refine ⟨nl, xs, rfl, hl, fun x hx' => ?_⟩
 obtain ⟨m', hm⟩ := hx x hx'
 unfold c7K at hm
 rw [if_pos f5r] at hm
 obtain ⟨cs, rfl, hm⟩ := hm
 have hk := a8i (.a cs) 9
 have hs := a5v hx'
 simp only [a3k, szD] at hsz
 have h := hm
 rw [e8Z] at h
 obtain ⟨_, _, rfl, g0, h⟩ := a0H h
 obtain ⟨_, _, rfl, g1, h⟩ := a0H h
 obtain ⟨_, _, rfl, g2, h⟩ := a0H h
 obtain ⟨_, _, rfl, g3, h⟩ := a0H h
 obtain ⟨_, _, rfl, g4, h⟩ := a0H h
 obtain ⟨_, _, rfl, g5, h⟩ := a0H h
 obtain ⟨_, _, rfl, g6, h⟩ := a0H h
 obtain ⟨_, _, rfl, g7, h⟩ := a0H h
 obtain ⟨_, _, rfl, g8, h⟩ := a0H h
 obtain ⟨_, _, rfl, g9, h⟩ := a0H h
 obtain rfl := b2n h
 obtain ⟨s, rfl, hs0⟩ := f30 g0
 obtain ⟨t, rfl, hs8⟩ := f30 g8
 exact ⟨hs0, hs8, by omega⟩
theorem e84 (m : Nat) (dss : List (List D)) (h : a0B (b8x Tryz.prog m) Tryz.f5.params.toList dss) (hsz : (dss.map a3k).sum ≤ 1048576) : a1I Tryz.prog 5 (e0S Tryz.prog Tryz.f5.params.toList dss) [] ([.c (.b true)], []) := by
 have hp : Tryz.f5.params.toList = [42, 28, 40] := by kernel_rfl
 rw [hp] at h ⊢
 match dss, h with
 | [d0, d1, d2], ⟨h0, h1, h2, _⟩ =>
  obtain ⟨nl0, b0, rfl, l0, B0⟩ := e0e h0 (by simp only [List.map_cons, List.sum_cons] at hsz; omega)
  obtain ⟨nl1, b1, rfl, l1, R1, X1, Z1⟩ := e82 h1
  have m1 : b1.length ≤ 1048576 := by
   have := b0D b1
   simp only [List.map_cons, List.sum_cons, a3k, szD] at hsz
   omega
  obtain ⟨t, p1, p2, p3, p4, p5, p6, nl2, ys, rfl, R2, X2⟩ := e83 h2
  refine f3u 18446744073709551616 _ _ (f4e 18446744073709551616 [.b nl0, .l b0, .b nl1, .l b1, .s t, .i p1, .i p2, .i p3, .i p4, .i p5, .i p6, .b nl2, .l ys]) (by kernel_rfl) _ ?_
  have e : f4e 18446744073709551616 [.b nl0, .l b0, .b nl1, .l b1, .s t, .i p1, .i p2, .i p3, .i p4, .i p5, .i p6, .b nl2, .l ys] = bnd (f3s 18446744073709551616 b0 nl1 b1 t p1 p2 p3 p4 p5 p6 nl2 ys) fun q => [(q.isSome, ([.c (.b (q.getD default))], []))] := by kernel_rfl
  rw [e, f5L (by decide) l0 m1 Z1 B0 R1 X1 R2 X2]
  rfl
theorem Tryz.own : ownKnob Tryz.prog.godebug = none := by kernel_rfl
theorem Tryz.laidOut : laidOutB Tryz.prog = true := by kernel_rfl
theorem f32 {H : Type} : c1A (Rows.uptoBulk : DataW H → Nat) Rows.uptoBulkAll := by
 refine ⟨fun l => ?_, fun l => ?_, ?_, fun e s => ?_, fun p => ?_, ?_, fun d r => ?_⟩
 ·cases l <;> simp [Rows.uptoBulk]
 ·simp [Rows.uptoBulk]
 ·simp [Rows.uptoBulk]
 ·simp only [Rows.uptoBulk]; omega
 ·simp [Rows.uptoBulk]
 ·simp [Rows.uptoBulkAll]
 ·simp [Rows.uptoBulkAll]
theorem g0 : Tryz.prog.globalNamed "internal/bytealg.MaxLen" = some 0 := by kernel_rfl
theorem g1 : Tryz.prog.globalNamed "internal/strconv.uint64pow10" = some 1 := by kernel_rfl
theorem g2 : Tryz.prog.globalNamed "strconv.ErrSyntax" = some 2 := by kernel_rfl
theorem g3 : Tryz.prog.globalNamed "strconv.ErrRange" = some 3 := by kernel_rfl
theorem giW {W : World} (hs : W.ShapedOpen Tryz.prog) (hl : laidMetH Tryz.prog Rows.askMoreEarnsMoreUptoRow.laid W) {M : a0Q} (hM : ∀ b o, ¬ M b o) : GI Tryz.prog M W := by
 have hl : laidMet Tryz.prog Rows.askMoreEarnsMoreUptoRow.laid W := hl
 refine f4J g0 g1 g2 g3 ?_ ?_ ?_ ?_ hM
 ·exact e8H (t := 3) (zero := #[.int .i64 0]) hs (of_decide_eq_true (by kernel_rfl)) (by kernel_rfl) rfl (by kernel_rfl) (by kernel_rfl) (by kernel_rfl)
 ·obtain ⟨ps, hv, _⟩ := hl
  obtain ⟨g, t, cs, fuel, p, q1, q2, q3, q4⟩ := c4l (x := ("internal/strconv.uint64pow10", Rows.laid_internal_strconv_uint64pow10)) hv (by simp [Rows.askMoreEarnsMoreUptoRow])
  obtain rfl := Option.some.inj ((show (Tryz.prog.globals[1]?).map (·.type) = some 272 by kernel_rfl).symm.trans (by rw [Option.some.inj (g1.symm.trans q1)]; exact q2))
  have hcs := Lib.cells_of_tab (k := .u64) (zs := (List.range 20).map fun i => ((10 ^ i : Nat) : Int)) (n := 20) (e := 159) (t := 272) (by kernel_rfl) (by kernel_rfl) (by kernel_rfl) (by kernel_rfl) (show DataW.trod _ _ _ _ _ _ fuel 272 cs.toList = some (Lib.tabData .u64 ((List.range 20).map fun i => ((10 ^ i : Nat) : Int)), p) from q4)
  refine e8I (k := .u64) (zs := (List.range 20).map fun i => ((10 ^ i : Nat) : Int)) g1 (show W.var? Tryz.prog _ = _ by rw [q3, ← hcs]) (by simp) fun i p z h1 h2 => ?_
  rw [List.getElem?_map] at h1 h2
  obtain ⟨j, j1, rfl⟩ := Option.map_eq_some_iff.1 h1
  rw [j1] at h2
  simp only [f6b, f5S] at h2
  subst h2
  rfl
 ·exact d9K (t := 199) hl (show ("strconv.ErrSyntax", Rows.laid_strconv_ErrSyntax) ∈ Rows.askMoreEarnsMoreUptoRow.laid by simp [Rows.askMoreEarnsMoreUptoRow]) g2 (by kernel_rfl) (by kernel_rfl)
 ·exact d9K (t := 199) hl (show ("strconv.ErrRange", Rows.laid_strconv_ErrRange) ∈ Rows.askMoreEarnsMoreUptoRow.laid by simp [Rows.askMoreEarnsMoreUptoRow]) g3 (by kernel_rfl) (by kernel_rfl)
abbrev f5N : ByteArray := { data := #[105, 110, 118, 97, 108, 105, 100, 32, 115, 121, 110, 116, 97, 120] }
abbrev f5O : ByteArray := { data := #[118, 97, 108, 117, 101, 32, 111, 117, 116, 32, 111, 102, 32, 114, 97, 110, 103, 101] }
noncomputable def low : Nat := (World.holding Tryz.prog default ⟨#[], #[], []⟩).heap.size
def e85 {H : Type} : DataW H → Array Value
 | .agg l => (l.map fun | .lit (.int k n) => Value.int k n | _ => undef).toArray
 | _ => #[]
def f33 (h : Array Obj) (g : Nat) (vs : Array Value) : Array Obj := h.modify g fun
 | .cells _ t fr => .cells vs t fr
 | o => o
noncomputable def b9u (os : Os) : World :=
 let w0 := World.holding Tryz.prog os ⟨#[.cells #[.string f5N] 292, .cells #[.string f5O] 292], #[], []⟩
 { w0 with heap := f33 (f33 (f33 (f33 (f33 w0.heap 1 (e85 (H := Unit) Rows.laid_internal_strconv_uint64pow10)) 2 #[.iface 290 (.pointer (some ⟨low, 0, none⟩))]) 3 #[.iface 290 (.pointer (some ⟨low + 1, 0, none⟩))])
   4 (e85 (H := Unit) Rows.laid_math_bits_deBruijn32tab)) 5 (e85 (H := Unit) Rows.laid_math_bits_deBruijn64tab) }
def f4i : Value := .slice none 0 0
def f4j : Value := .slice none 0 0
def f4k : Value := .agg #[.string ⟨#[]⟩, .int .i64 0, .int .i64 0, .int .i64 0, .int .i64 0, .int .i64 0, .int .i64 0, .slice none 0 0]
def f5P {H : Type} : DataW H := .nil
def f5Q {H : Type} : DataW H := .nil
def f5R {H : Type} : DataW H := .agg [.lit (.string []), .lit (.int .i64 0), .lit (.int .i64 0), .lit (.int .i64 0), .lit (.int .i64 0), .lit (.int .i64 0), .lit (.int .i64 0), .nil]
theorem e3Q (os : Os) : laidMet Tryz.prog Rows.askMoreEarnsMoreUptoRow.laid ((b9u os).forCall (fun _ _ => 0) ⟨#[], #[f4i, f4j, f4k], []⟩).memory :=
 laidMet_of_run' 8 (by kernel_rfl) (by kernel_rfl)
theorem reads (os : Os) {H : Type} (enc : TypeId × Value → H) : ∃ places, DataW.whole enc Tryz.prog ((b9u os).forCall (fun _ _ => 0) ⟨#[], #[f4i, f4j, f4k], []⟩).memory Tryz.f5.params.toList Rows.askMoreEarnsMoreSpec.vars false #[f4i, f4j, f4k].toList 8 = some ([f5P, f5Q, f5R], [], places) :=
 ⟨[], by kernel_rfl⟩
theorem d38 (os : Os) (started : os.Started) (H : Type) (enc : TypeId × Value → H) (F : Stop.Interp) :
  ReturnsInHanded {} Tryz.checked os 5 .any ((Rows.OpenSpec.upto Rows.askMoreEarnsMoreSpec).preRow enc Tryz.prog Tryz.f5 Rows.askMoreEarnsMoreUptoRow.domain false Rows.askMoreEarnsMoreUptoRow.laid) (((Rows.OpenSpec.upto Rows.askMoreEarnsMoreSpec).at F).post enc Tryz.prog Tryz.f5 false true false false) := by
 obtain ⟨places, hx⟩ := reads os enc
 refine returnsInHanded_of_row (C := Tryz.checked) (s := Rows.OpenSpec.upto Rows.askMoreEarnsMoreSpec) Tryz.own started (by kernel_rfl) Tryz.func5
  (witness_row_at (enc := enc) (C := Tryz.checked) false (b9u os) #[f4i, f4j, f4k] rfl (by kernel_rfl) (by kernel_rfl) (by kernel_rfl)
   (OpenSpec.preRow_of_cond 8 hx (by kernel_rfl) (fun k hk => by cases hk; kernel_rfl) (by kernel_rfl) (e3Q os))) ?_
 intro W base args ds gs before hval hW _ hcond _ hL hsh _
 have hgs : gs = [] := by
  obtain ⟨_, _, _, hv, _⟩ := hW
  cases gs with
  | nil => rfl
  | cons => exact hv.elim
 have hb := of_decide_eq_true (hcond _ rfl)
 rw [hgs, List.append_nil] at hb
 exact d9J (tb := 4) f32 [24, 9, 52, 40, 42, 28] (by kernel_rfl) Tryz.laidOut rfl (by kernel_rfl) (by kernel_rfl) (by kernel_rfl) (fun l hl => by
  rw [show Tryz.f5.params.size = 3 by kernel_rfl] at hl
  match l, hl with
  | [_, _, _], _ => rfl) (fun m dss h hs => e84 m dss h (Nat.le_trans hs hb)) (fun hM => giW hsh hL hM) hval hW
end Go.Proofs.YtfkkcdapcgimlaaGreatDoor

