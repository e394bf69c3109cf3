/- A part of a proof of a law: lemmas. Conditions: those of each lemma. -/
import Derived.Test.YtfogaejiehebeaaSQp1
import Derived.KernelRfl
import Derived.HandedShaped
import Derived.Test.YtfogaejiehebeaaRows
set_option linter.all false
set_option maxRecDepth 100000
namespace Go.Proofs.Ytfogaejiehebeaa
open Go Go.AM
set_option maxRecDepth 100000
set_option maxHeartbeats 4000000
variable {N : Nat}
def inI (n a b : Int) : Bool := decide (a ≤ n ∧ n ≤ b)
theorem b0T (n a b : Int) : a2N N n a b = inI n a b := by
 unfold a2N c1x inI
 rw [Bool.eq_iff_iff]; simp
theorem b0U (n a b : Int) : a8Z N n a b = !inI n a b := by
 unfold a8Z c6r inI
 rw [Bool.eq_iff_iff]; simp <;> omega
def a3a (e : Int → Int) : Int → List D → Int
 | _, [] => 0
 | w, _ :: r => bif e w != 0 then e w else a3a e (w + 1) r
def c6W (n : Int) : Sum Int Unit := bif n != 0 then .inl n else .inr ()
theorem b9T {e : Int → Int} {w : Int} {x : D} {l : List D} : c6W (a3a e w (x :: l)) = bif e w != 0 then .inl (e w) else c6W (a3a e (w + 1) l) := by
 simp only [a3a]
 cases h : e w != 0 with
 | true => simp only [f22, c6W, h]
 | false => rfl
section
variable {xs : List D} {w : Int}
end
theorem e0h {α : Type} (n : Int) (k0 : Int → α) (k1 : α) (z : α) : (bif a07 (some (c6W n)) then k0 (a3p (some (c6W n))) else bif (a0I (some (c6W n))).isSome then k1 else z) = bif n != 0 then k0 n else k1 := by
 unfold c6W
 cases n != 0 <;> rfl
section
variable {name : List UInt8} {sport start : Int} {smps laps tags : List D}
end
end Go.Proofs.Ytfogaejiehebeaa

namespace Go.Proofs.Ytfogaejiehebeaa
open Go Go.AM
set_option maxRecDepth 100000
set_option maxHeartbeats 4000000
variable {N : Nat}
def a7T (f : D → D → Bool) : List D → List D → Bool
 | x :: r, y :: s => f x y && a7T f r s
 | _, _ => true
theorem d2x {xs ys : List D} (f : D → D → Bool) {S : Int → (Int → Option (Sum Unit Unit)) → Option (Sum Unit Unit)} {L : Nat → Int → Option (Sum Unit Unit)} (hL : ∀ m a, L (m + 1) a = S a (L m)) (hlen : xs.length ≤ maxLen) (hxy : xs.length = ys.length)
  (hend : ∀ kr, S xs.length kr = some (.inr ()))
  (hstep : ∀ (w : Int) (kr : Int → Option (Sum Unit Unit)), decide (w < xs.length) = true → inB w xs.length = true → inB w ys.length = true → S w kr = bif f (xs.getD w.toNat (.i 0)) (ys.getD w.toNat (.i 0)) then kr (IntKind.wrap .i64 (w + 1)) else some (.inl ()))
  (hN : maxLen < N) : L N 0 = some (bif a7T f xs ys then .inr () else .inl ()) := by
 refine (b2m (.i 0 : D) hL (fun w l => some (bif a7T f l (ys.drop w.toNat) then .inr () else .inl ())) hlen ?_ ?_ hN).trans (by simp)
 ·intro kr; rw [hend]; simp [a7T]
 ·intro w kr h0 h1 hw hi hk
  have h2 : w < ys.length := by omega
  rw [hstep w kr (decide_eq_true h1) hi (a0P h0 (by omega)), hw, hk, a2p (.i 0) (xs := ys) h0 h2]
  simp only [a7T]
  cases f (xs.getD w.toNat (.i 0)) (ys.getD w.toNat (.i 0)) <;> rfl
section
variable {xs ys : List D}
end
section
variable {n n' : List UInt8} {sp st sp' st' : Int} {s l t s' l' t' : List D}
end
end Go.Proofs.Ytfogaejiehebeaa

namespace Go.Proofs.Ytfogaejiehebeaa
open Go Go.AM
set_option maxRecDepth 100000
set_option maxHeartbeats 4000000
variable {N : Nat}
theorem b28 {A X : Type} {S : A → (A → X) → X} {L : Nat → A → X} (hL : ∀ m a, L (m + 1) a = S a (L m)) (P : A → X → Prop) (Inv : A → Prop) (μ : A → Nat)
  (h : ∀ a kr, Inv a → (∀ a', Inv a' → μ a' < μ a → P a' (kr a')) → P a (S a kr)) : ∀ (m : Nat) (a : A), Inv a → μ a < m → P a (L m a) := by
 intro m
 induction m with
 | zero => intro a _ h; omega
 | succ m ih => intro a ha hm; rw [hL]; exact h a (L m) ha fun a' h1 h2 => ih a' h1 (by omega)
def fN (f : D) : Int := (f.cell 0).toI
def fS (f : D) : Int := (f.cell 1).toI
def fT (f : D) : Int := (f.cell 2).toI
def isT (f : D) : Bool := (fN f == 253) && (fT f == 0) && (fS f == 4)
def c7H (n : Int) (l : List D) : Bool := l.any fun f => fN f == n
def c7I (fs : List D) (w : Int) : Int :=
 bif !(inI (fN (fs.getD w.toNat (.i 0))) 0 255) || !(inI (fS (fs.getD w.toNat (.i 0))) 1 255) then 9 else bif !inI (fT (fs.getD w.toNat (.i 0))) 0 3 then 7 else
 bif decide (fT (fs.getD w.toNat (.i 0)) ≤ 1) && (fS (fs.getD w.toNat (.i 0)) != 1) && (fS (fs.getD w.toNat (.i 0)) != 2) && (fS (fs.getD w.toNat (.i 0)) != 4) then 2 else
 bif c7H (fN (fs.getD w.toNat (.i 0))) (fs.take w.toNat) then 5 else 0
def c7J (g : Int) (fs : List D) : Int := bif !inI g 0 65535 then 9 else bif decide ((fs.length : Int) > 30) then 3 else a3a (c7I fs) 0 fs
theorem d7U (hN : maxLen < N) {xs : List D} {n : Int} (hs : xs.length ≤ maxLen) : ∃ i : Int, c9C N xs n = some i ∧ decide (i ≥ 0) = c7H n xs := by
 have h : c1y N xs xs.length n 0 = some (match xs.findIdx? fun d => fN d == n with | some j => .inl (j : Int) | none => .inr ()) := by
  unfold c1y
  refine (b2m (.i 0 : D) (S := fun w kr => a8Y N xs xs.length n w kr _ _) (L := fun m w => b59 N xs xs.length n m w _ _) (fun m w => rfl) (fun w l => some (match l.findIdx? fun d => fN d == n with | some j => .inl (w + (j : Int)) | none => .inr ())) hs ?_ ?_ hN).trans (by simp)
  ·intro kr; simp [a8Y]
  ·intro w kr h0 h1 hw hi hk
   simp only [a8Y, d6o, c5y, decide_eq_true h1, f22, hi, a0s, hw, hk, List.findIdx?_cons]
   show (bif (fN (xs.getD w.toNat (.i 0)) == n) then _ else _) = _
   cases fN (xs.getD w.toNat (.i 0)) == n with
   | true => simp
   | false =>
    simp only [f23, Bool.false_eq_true, if_false]
    cases (xs.drop (w + 1).toNat).findIdx? fun d => fN d == n with
    | none => rfl
    | some j => simp; omega
 unfold c9C c5A
 rw [h]
 have hl : c7H n xs = (xs.findIdx? fun d => fN d == n).isSome := by
  rw [List.findIdx?_isSome]; rfl
 rw [hl]
 cases xs.findIdx? fun d => fN d == n with
 | none => exact ⟨-1, rfl, rfl⟩
 | some j => exact ⟨j, rfl, by simp⟩
theorem d7V (hN : maxLen < N) {xs : List D} {n : Int} (hs : xs.length ≤ maxLen) : c9E N xs n = some (c7H n xs) := by
 obtain ⟨i, h1, h2⟩ := d7U hN (n := n) hs
 unfold c9E c5B
 rw [h1]
 simp only [a0s, f27, f22, getD_some, h2]
theorem c2b (hN : maxLen < N) {xs : List D} {n : Int} (hs : xs.length ≤ maxLen) : b6C N xs xs.length n 0 = some (bif c7H n xs then .inl () else .inr ()) := by
 unfold b6C
 refine (b2m (.i 0 : D) (S := fun w kr => a5y N xs xs.length n w kr _ _) (L := fun m w => b0y N xs xs.length n m w _ _) (fun m w => rfl) (fun _ l => some (bif c7H n l then .inl () else .inr ())) hs ?_ ?_ hN).trans rfl
 ·intro kr; simp [a5y, c7H]
 ·intro w kr h0 h1 hw hi hk
  simp only [a5y, decide_eq_true h1, f22, hi, hw, hk, c7H, List.any_cons]
  show (bif (fN (xs.getD w.toNat (.i 0)) == n) then _ else _) = _
  cases fN (xs.getD w.toNat (.i 0)) == n <;> rfl
section
variable {fs : List D} {w : Int}
theorem d2y (h0 : 0 ≤ w) (h1 : w < fs.length) : (decide (0 ≤ w) && decide (w ≤ (fs.length : Int))) = true := by
 rw [decide_eq_true h0, decide_eq_true (by omega)]; rfl
theorem c2c (hN : maxLen < N) (hl : fs.length ≤ maxLen) : b6b N fs fs.length fs 0 = some (c6W (a3a (c7I fs) 0 fs)) := by
 unfold b6b
 refine (b2m (.i 0 : D) (S := fun w kr => a5l N fs fs.length fs w kr _ _) (L := fun m w => a97 N fs fs.length fs m w _ _) (fun m w => rfl) (fun w l => some (c6W (a3a (c7I fs) w l))) hl ?_ ?_ hN).trans rfl
 ·intro kr; simp [a5l, a3a, c6W]
 ·intro w kr h0 h1 hw hi hk
  have hm := d7V hN (xs := fs.take w.toNat) (n := fN (fs.getD w.toNat (.i 0))) (by simp; omega)
  simp only [a5l, decide_eq_true h1, f22, hi, a0s, hw, hk, d2y h0 h1, List.drop_zero, a96, a5k, b0T, b9T]
  rw [show (((fs.getD w.toNat (.i 0)).cell 0).toI) = fN (fs.getD w.toNat (.i 0)) from rfl, hm]
  unfold c7I
  generalize c7H (fN (fs.getD w.toNat (.i 0))) (fs.take w.toNat) = hh
  generalize fs.getD w.toNat (.i 0) = f
  rw [show ((f.cell 1).toI) = fS f from rfl, show ((f.cell 2).toI) = fT f from rfl]
  simp only [f27, getD_some, f22]
  cases inI (fN f) 0 255 <;> try rfl
  cases inI (fS f) 1 255 <;> try rfl
  cases h3 : inI (fT f) 0 3 <;> try rfl
  have e : (bif fT f == 0 then true else fT f == 1) = decide (fT f ≤ 1) := by
   unfold inI at h3
   rw [Bool.eq_iff_iff]; simp at h3 ⊢
   by_cases h : fT f = 0 <;> simp [h] <;> omega
  rw [e]
  cases decide (fT f ≤ 1) <;> cases (fS f != 1) <;> cases (fS f != 2) <;> cases (fS f != 4) <;> cases hh <;> rfl
theorem c2d (hN : maxLen < N) (hl : fs.length ≤ maxLen) : b6D N fs fs.length fs 0 = some (c6W (a3a (c7I fs) 0 fs)) := by
 unfold b6D
 refine (b2m (.i 0 : D) (S := fun w kr => a5z N fs fs.length fs w kr _ _) (L := fun m w => b0A N fs fs.length fs m w _ _) (fun m w => rfl) (fun w l => some (c6W (a3a (c7I fs) w l))) hl ?_ ?_ hN).trans rfl
 ·intro kr; simp [a5z, a3a, c6W]
 ·intro w kr h0 h1 hw hi hk
  have hm := c2b hN (xs := fs.take w.toNat) (n := fN (fs.getD w.toNat (.i 0))) (by simp; omega)
  simp only [a5z, decide_eq_true h1, f22, hi, a0s, hw, hk, d2y h0 h1, List.drop_zero, b0x, a5x, b0U, b9T]
  rw [show (((fs.getD w.toNat (.i 0)).cell 0).toI) = fN (fs.getD w.toNat (.i 0)) from rfl, hm]
  unfold c7I
  generalize c7H (fN (fs.getD w.toNat (.i 0))) (fs.take w.toNat) = hh
  generalize fs.getD w.toNat (.i 0) = f
  rw [show ((f.cell 1).toI) = fS f from rfl, show ((f.cell 2).toI) = fT f from rfl]
  cases inI (fN f) 0 255 <;> cases inI (fS f) 1 255 <;> cases inI (fT f) 0 3 <;> try rfl
  cases decide (fT f ≤ 1) <;> cases (fS f != 1) <;> cases (fS f != 2) <;> cases (fS f != 4) <;> cases hh <;> rfl
theorem d7W (hN : maxLen < N) (g : Int) (hl : fs.length ≤ maxLen) : c9K N g fs = some (c7J g fs) := by
 unfold c9K c5E c7J
 simp only [a0s, b0T, c2c hN hl, e0h]
 cases inI g 0 65535 <;> cases decide ((fs.length : Int) > 30) <;> try rfl
 cases h : a3a (c7I fs) 0 fs != 0 <;> first | rfl | (simp only [bne_eq_false_iff_eq] at h; simp [h])
theorem d7X (hN : maxLen < N) (g : Int) (hl : fs.length ≤ maxLen) : d1t N g fs = some (c7J g fs) := by
 unfold d1t c6v c7J
 simp only [a0s, b0U, c2d hN hl, e0h]
 cases inI g 0 65535 <;> cases decide ((fs.length : Int) > 30) <;> try rfl
 cases h : a3a (c7I fs) 0 fs != 0 <;> first | rfl | (simp only [bne_eq_false_iff_eq] at h; simp [h])
end
structure a1I (fs : List D) : Prop where
 len : fs.length ≤ 255
 size : ∀ f ∈ fs, 0 ≤ fS f ∧ fS f ≤ 255
theorem a4f {e : Int → Int} : ∀ {l : List D} {w : Int}, a3a e w l = 0 → ∀ i : Nat, i < l.length → e (w + i) = 0
 | [], w, _, i, hi => by simp at hi
 | x :: r, w, h, i, hi => by
  simp only [a3a] at h
  cases he : e w != 0 with
  | true =>
   rw [he] at h
   simp only [f22] at h
   rw [h] at he
   simp at he
  | false =>
   rw [he] at h
   cases i with
   | zero => simpa using he
   | succ i =>
    have := a4f (l := r) (w := w + 1) h i (by simpa using hi)
    rw [show w + ((i + 1 : Nat) : Int) = w + 1 + (i : Int) by omega]
    exact this
theorem c2e {g : Int} {fs : List D} (h : c7J g fs = 0) : a1I fs := by
 unfold c7J at h
 cases h1 : inI g 0 65535 with
 | false => rw [h1] at h; exact absurd (show (9 : Int) = 0 from h) (by decide)
 | true =>
  rw [h1] at h
  cases h2 : decide ((fs.length : Int) > 30) with
  | true => rw [h2] at h; exact absurd (show (3 : Int) = 0 from h) (by decide)
  | false =>
   rw [h2] at h
   simp only [Bool.not_true, f23] at h
   refine ⟨by simp at h2; omega, fun f hf => ?_⟩
   obtain ⟨i, hi, rfl⟩ := List.getElem_of_mem hf
   have := a4f h i hi
   rw [Int.zero_add] at this
   unfold c7I at this
   have hg : fs.getD ((i : Int)).toNat (.i 0) = fs[i] := by
    rw [f26, Int.toNat_natCast, f3c hi]; rfl
   rw [hg] at this
   cases h3 : inI (fS fs[i]) 1 255 with
   | false =>
    rw [h3] at this
    cases inI (fN fs[i]) 0 255 <;> exact absurd (show (9 : Int) = 0 from by simpa using this) (by decide)
   | true => unfold inI at h3; simp at h3; omega
def szL : List D → Int
 | [] => 0
 | f :: r => fS f + szL r
def tmL : Int → List D → Int
 | _, [] => -1
 | a, f :: r => bif isT f then a else tmL (a + fS f) r
def flds : Bool → List D → List D
 | _, [] => []
 | t, f :: r => bif t && isT f then flds false r else .a [.i (fN f), .i (fS f), .i (fT f)] :: flds t r
theorem a3b : ∀ {fs : List D}, (∀ f ∈ fs, 0 ≤ fS f ∧ fS f ≤ 255) → 0 ≤ szL fs ∧ szL fs ≤ 255 * fs.length
 | [], _ => by simp [szL]
 | f :: r, h => by
  have h1 := h f (by simp)
  have h2 := a3b (fs := r) fun x hx => h x (by simp [hx])
  simp only [szL, List.length_cons]
  omega
theorem b29 : ∀ {fs : List D} {a : Int}, 0 ≤ a → (∀ f ∈ fs, 0 ≤ fS f ∧ fS f ≤ 255) → (tmL a fs = -1 ∨ a ≤ tmL a fs ∧ tmL a fs + 4 ≤ a + szL fs)
 | [], _, _, _ => .inl rfl
 | f :: r, a, ha, h => by
  have h1 := h f (by simp)
  simp only [tmL, szL]
  cases ht : isT f with
  | true =>
   have h2 := a3b (fs := r) fun x hx => h x (by simp [hx])
   have h3 : fS f = 4 := by unfold isT at ht; simp at ht; exact ht.2
   right; simp only [f22]; omega
  | false =>
   simp only [f23]
   rcases b29 (fs := r) (a := a + fS f) (by omega) (fun x hx => h x (by simp [hx])) with h2 | h2
   ·exact .inl h2
   ·right; omega
theorem a2u : ∀ fs : List D, szL (flds false fs) = szL fs
 | [] => rfl
 | f :: r => by simp only [flds, Bool.false_and, f23, szL, a2u r]; rfl
theorem b6U : ∀ {fs : List D} {a : Int}, 0 ≤ a → (∀ f ∈ fs, 0 ≤ fS f ∧ fS f ≤ 255) → (tmL a fs < 0 → szL (flds true fs) = szL fs) ∧ (0 ≤ tmL a fs → szL (flds true fs) = szL fs - 4)
 | [], _, _, _ => ⟨fun _ => rfl, fun h => absurd (show (0 : Int) ≤ -1 from h) (by decide)⟩
 | f :: r, a, ha, h => by
  have h1 := h f (by simp)
  have e : fS (.a [.i (fN f), .i (fS f), .i (fT f)]) = fS f := rfl
  cases ht : isT f with
  | true =>
   have h3 : fS f = 4 := by unfold isT at ht; simp at ht; exact ht.2
   simp only [flds, tmL, szL, ht, Bool.and_self, f22, a2u]
   constructor <;> intro h4 <;> omega
  | false =>
   have h5 := b6U (fs := r) (a := a + fS f) (by omega) fun x hx => h x (by simp [hx])
   simp only [flds, tmL, szL, ht, Bool.and_false, f23, e]
   exact ⟨fun h4 => by rw [h5.1 h4], fun h4 => by rw [h5.2 h4]; omega⟩
section
variable {fs : List D}
theorem a0S {w : Int} (h0 : 0 ≤ w) (h1 : w < fs.length) : fs.getD w.toNat (.i 0) ∈ fs := by
 rw [f26, f3c (by omega)]; exact List.getElem_mem _
theorem e0i (f : D) : (bif (bif ((f.cell 0).toI == 253) then ((f.cell 2).toI == 0) else false) then ((f.cell 1).toI == 4) else false) = isT f := by
 unfold isT fN fT fS
 cases (f.cell 0).toI == 253 <;> cases (f.cell 2).toI == 0 <;> rfl
theorem c34 (f : D) : d1x N (f.cell 0).toI (f.cell 1).toI (f.cell 2).toI = isT f := e0i f
theorem d7Y (hN : maxLen < N) (h : a1I fs) : c9Z N fs = some (szL fs, tmL 0 fs) := by
 have hm : maxLen = 9223372036854775807 := rfl
 have hl := h.len
 have key := a5i (A := Int × Int × Int) (X := Option (Int × Int)) (S := fun x kr => b2J N fs fs.length x.1 x.2.1 x.2.2 (fun a b c => kr (a, b, c)) (fun p => some p)) (L := fun m x => b6c N fs fs.length m x.1 x.2.1 x.2.2 (fun p => some p)) (fun m x => rfl)
  (fun x => some (x.2.1 + szL (fs.drop x.1.toNat), bif decide (x.2.2 < 0) then tmL x.2.1 (fs.drop x.1.toNat) else x.2.2)) (fun x => 0 ≤ x.1 ∧ x.1 ≤ fs.length ∧ 0 ≤ x.2.1 ∧ x.2.1 ≤ 255 * x.1 ∧ -1 ≤ x.2.2) (fun x => (fs.length - x.1).toNat) ?_ N (0, 0, -1) ⟨by decide, by show (0 : Int) ≤ _; omega, by decide, by decide, by decide⟩ (by simp; omega)
 ·have k2 : c9X N fs fs.length 0 0 (-1) = some (szL fs, tmL 0 fs) := by
   refine Eq.trans key ?_
   simp
  unfold c9Z c5Q
  rw [k2]; rfl
 ·rintro ⟨w, sz, t⟩ kr ⟨h0, h1, h2, h3, h4⟩ ih
  simp only at h0 h1 h2 h3 h4 ih ⊢
  unfold b2J
  by_cases hw : w < fs.length
  ·have hf := h.size _ (a0S h0 hw)
   rw [decide_eq_true hw, a0P h0 hw, a2p (.i 0) h0 hw]
   simp only [f22, a0s, b0e, a5q]
   rw [e0i]
   have e1 : ((fs.getD w.toNat (.i 0)).cell 1).toI = fS (fs.getD w.toNat (.i 0)) := rfl
   rw [e1, a0Y (x := sz + _) (by omega) (by omega), a0Y (x := w + 1) (by omega) (by omega)]
   rw [ih (w + 1, _, _) ⟨by omega, by omega, by simp only; omega, by simp only; omega, by simp only; cases isT (fs.getD w.toNat (.i 0)) <;> cases decide (t < 0) <;> simp <;> omega⟩ (by simp only; omega)]
   simp only [szL, tmL]
   cases ht : isT (fs.getD w.toNat (.i 0)) with
   | true =>
    by_cases hneg : t < 0
    ·simp only [decide_eq_true hneg, f22, decide_eq_false (show ¬ sz < 0 by omega), f23, f2Y, f3e, and_true]; omega
    ·simp only [decide_eq_false hneg, f22, f23, f2Y, f3e, and_true]; omega
   | false =>
    simp only [f23, f2Y, f3e]
    refine ⟨by omega, ?_⟩
    by_cases hneg : t < 0 <;> simp [hneg]
  ·have : w = fs.length := by omega
   subst this
   rw [decide_eq_false hw, a2t (by omega)]
   simp only [f23, szL, tmL, Int.add_zero, f2Y, f3e, true_and]
   by_cases ht : t < 0
   ·rw [decide_eq_true ht]; simp only [f22]; omega
   ·rw [decide_eq_false ht]; rfl
def tmW (n : Int) : Sum Int Unit := bif decide (n < 0) then .inr () else .inl n
theorem c35 (hN : maxLen < N) (h : a1I fs) : c6y N fs = some (bif decide (tmL 0 fs < 0) then (0, false) else (tmL 0 fs, true)) := by
 have hm : maxLen = 9223372036854775807 := rfl
 have hl := h.len
 have key := a5i (A := Int × Int) (X := Option (Sum Int Unit)) (S := fun x kr => b2Y N fs fs.length x.1 x.2 (fun a b => kr (a, b)) (fun p => some (.inl p)) (fun p => some (.inr p))) (L := fun m x => b6F N fs fs.length m x.1 x.2 (fun p => some (.inl p)) (fun p => some (.inr p))) (fun m x => rfl)
  (fun x => some (tmW (tmL x.1 (fs.drop x.2.toNat)))) (fun x => 0 ≤ x.2 ∧ x.2 ≤ fs.length ∧ 0 ≤ x.1 ∧ x.1 ≤ 255 * x.2) (fun x => (fs.length - x.2).toNat) ?_ N (0, 0) ⟨by decide, by show (0 : Int) ≤ _; omega, by decide, by decide⟩ (by simp; omega)
 ·have k2 : d1A N fs fs.length 0 0 = some (tmW (tmL 0 fs)) := by
   refine Eq.trans key ?_
   simp
  unfold c6y c6x
  rw [k2]
  unfold tmW
  cases decide (tmL 0 fs < 0) <;> rfl
 ·rintro ⟨sz, w⟩ kr ⟨h0, h1, h2, h3⟩ ih
  simp only at h0 h1 h2 h3 ih ⊢
  unfold b2Y
  by_cases hw : w < fs.length
  ·have hf := h.size _ (a0S h0 hw)
   rw [decide_eq_true hw, a0P h0 hw, a2p (.i 0) h0 hw]
   simp only [f22, a0s, c34]
   have e1 : ((fs.getD w.toNat (.i 0)).cell 1).toI = fS (fs.getD w.toNat (.i 0)) := rfl
   rw [e1, a0Y (x := sz + _) (by omega) (by omega), a0Y (x := w + 1) (by omega) (by omega)]
   simp only [tmL]
   cases ht : isT (fs.getD w.toNat (.i 0)) with
   | true => simp only [f22]; unfold tmW; rw [decide_eq_false (by omega)]; rfl
   | false =>
    simp only [f23]
    exact ih (sz + fS (fs.getD w.toNat (.i 0)), w + 1) ⟨by omega, by omega, by simp only; omega, by simp only; omega⟩ (by simp only; omega)
  ·have : w = fs.length := by omega
   subst this
   rw [decide_eq_false hw, a2t (by omega)]
   rfl
theorem d7Z (hN : maxLen < N) (h : a1I fs) : d1M N fs = some (szL fs) := by
 have hm : maxLen = 9223372036854775807 := rfl
 have hl := h.len
 have key := a5i (A := Int × Int) (X := Option Int) (S := fun x kr => b20 N fs fs.length x.1 x.2 (fun a b => kr (a, b)) (fun p => some p)) (L := fun m x => b6I N fs fs.length m x.1 x.2 (fun p => some p)) (fun m x => rfl)
  (fun x => some (x.1 + szL (fs.drop x.2.toNat))) (fun x => 0 ≤ x.2 ∧ x.2 ≤ fs.length ∧ 0 ≤ x.1 ∧ x.1 ≤ 255 * x.2) (fun x => (fs.length - x.2).toNat) ?_ N (0, 0) ⟨by decide, by show (0 : Int) ≤ _; omega, by decide, by decide⟩ (by simp; omega)
 ·have k2 : d1K N fs fs.length 0 0 = some (szL fs) := by
   refine Eq.trans key ?_
   simp
  unfold d1M c6D
  rw [k2]; rfl
 ·rintro ⟨sz, w⟩ kr ⟨h0, h1, h2, h3⟩ ih
  simp only at h0 h1 h2 h3 ih ⊢
  unfold b20
  by_cases hw : w < fs.length
  ·have hf := h.size _ (a0S h0 hw)
   rw [decide_eq_true hw, a0P h0 hw, a2p (.i 0) h0 hw]
   simp only [f22, a0s]
   have e1 : ((fs.getD w.toNat (.i 0)).cell 1).toI = fS (fs.getD w.toNat (.i 0)) := rfl
   rw [e1, a0Y (x := sz + _) (by omega) (by omega), a0Y (x := w + 1) (by omega) (by omega)]
   rw [ih (sz + fS (fs.getD w.toNat (.i 0)), w + 1) ⟨by omega, by omega, by simp only; omega, by simp only; omega⟩ (by simp only; omega)]
   simp only [szL, f2Y]; omega
  ·have : w = fs.length := by omega
   subst this
   rw [decide_eq_false hw, a2t (by omega)]
   simp only [f23, szL, Int.add_zero]
theorem b6V : ∀ {fs : List D} {t : Bool}, (∀ f ∈ fs, 0 ≤ fS f ∧ fS f ≤ 255) → (flds t fs).length ≤ fs.length ∧ ∀ f ∈ flds t fs, 0 ≤ fS f ∧ fS f ≤ 255
 | [], _, _ => by simp [flds]
 | f :: r, t, h => by
  have h1 := h f (by simp)
  have h2 : ∀ t, _ := fun t => b6V (fs := r) (t := t) fun x hx => h x (by simp [hx])
  simp only [flds]
  cases t && isT f with
  | true => simp only [f22, List.length_cons]; exact ⟨by have := (h2 false).1; omega, (h2 false).2⟩
  | false =>
   simp only [f23, List.length_cons]
   refine ⟨by have := (h2 t).1; omega, fun x hx => ?_⟩
   rcases f3d.1 hx with rfl | hx
   ·exact h1
   ·exact (h2 t).2 x hx
theorem a1I.flds (h : a1I fs) (t : Bool) : a1I (flds t fs) := ⟨Nat.le_trans (b6V h.size).1 h.len, (b6V h.size).2⟩
theorem c36 (hN : maxLen < N) (h : a1I fs) (t : Bool) : ∃ nl, b9J N fs t = some (nl, flds t fs) := by
 have hm : maxLen = 9223372036854775807 := rfl
 have hl := h.len
 have key := b28 (A := Bool × Int × Bool × LD) (X := Option (Bool × LD)) (S := fun x kr => a7B N fs fs.length x.1 x.2.1 x.2.2.1 x.2.2.2 (fun a b c d => kr (a, b, c, d)) (fun p => some p)) (L := fun m x => b0E N fs fs.length m x.1 x.2.1 x.2.2.1 x.2.2.2 (fun p => some p)) (fun m x => rfl)
  (fun x r => ∃ nl, r = some (nl, x.2.2.2 ++ Proofs.Ytfogaejiehebeaa.flds x.1 (fs.drop x.2.1.toNat))) (fun x => 0 ≤ x.2.1 ∧ x.2.1 ≤ fs.length ∧ (x.2.2.2.length : Int) ≤ x.2.1) (fun x => (fs.length - x.2.1).toNat) ?_ N (t, 0, true, []) ⟨by show (0 : Int) ≤ 0; omega, by show (0 : Int) ≤ _; omega, by simp⟩ (by simp; omega)
 ·obtain ⟨nl, k2⟩ := key
  have k3 : c3V N fs fs.length t 0 true [] = some (nl, Proofs.Ytfogaejiehebeaa.flds t fs) := by
   refine Eq.trans k2 ?_
   simp
  refine ⟨nl, ?_⟩
  unfold b9J c6B
  rw [k3]; rfl
 ·rintro ⟨t, w, b, l⟩ kr ⟨h0, h1, h2⟩ ih
  simp only at h0 h1 h2 ih ⊢
  unfold a7B
  by_cases hw : w < fs.length
  ·rw [decide_eq_true hw, a0P h0 hw, a2p (.i 0) h0 hw]
   have r1 : decide ((l.length + 1) * 24 ≤ a1j) = true := decide_eq_true (by unfold a1j; omega)
   have r2 : decide (l.length + 1 ≤ a0i) = true := decide_eq_true (by unfold a0i; omega)
   have hv : a7A N t ((fs.getD w.toNat (.i 0)).cell 0).toI ((fs.getD w.toNat (.i 0)).cell 1).toI ((fs.getD w.toNat (.i 0)).cell 2).toI = (t && isT (fs.getD w.toNat (.i 0))) := by
    unfold a7A a7z
    simp only [a0s, c34]
    cases t <;> rfl
   simp only [f22, a0s, hv, r1, r2, Bool.and_self, a0Y (x := w + 1) (by omega) (by omega), Proofs.Ytfogaejiehebeaa.flds]
   cases t && isT (fs.getD w.toNat (.i 0)) with
   | true =>
    simp only [f22]
    exact ih (false, w + 1, b, l) ⟨by simp only; omega, by simp only; omega, by simp only; omega⟩ (by simp only; omega)
   | false =>
    simp only [f23]
    obtain ⟨nl, e⟩ := ih (t, w + 1, false, l ++ [.a [.i (fN (fs.getD w.toNat (.i 0))), .i (fS (fs.getD w.toNat (.i 0))), .i (fT (fs.getD w.toNat (.i 0)))]]) ⟨by simp only; omega, by simp only; omega, by simp; omega⟩ (by simp only; omega)
    exact ⟨nl, by rw [← List.append_cons] at e; exact e⟩
  ·have : w = fs.length := by omega
   subst this
   rw [decide_eq_false hw, a2t (by omega)]
   exact ⟨b, by simp [Proofs.Ytfogaejiehebeaa.flds]⟩
end
end Go.Proofs.Ytfogaejiehebeaa

namespace Go.Proofs.Ytfogaejiehebeaa
open Go Go.AM
set_option maxRecDepth 100000
set_option maxHeartbeats 4000000
variable {N : Nat}
theorem e2O {n b : Nat} (hn : n < 1099511627776) (hb : b < 256) : (c0I .or .i64 (IntKind.wrap .i64 ((n : Int) * 2 ^ 8)) (IntKind.wrap .i64 (b : Int))).getD 0 = 256 * (n : Int) + b := by
 have e1 : IntKind.wrap .i64 ((n : Int) * 2 ^ 8) = ((n * 256 : Nat) : Int) := by rw [a0Y (by omega) (by omega)]; omega
 have e2 : IntKind.wrap .i64 (b : Int) = (b : Int) := a0Y (by omega) (by omega)
 rw [e1, e2]
 have h64 : IntKind.bits .i64 = 64 := rfl
 have o : (BitVec.ofInt 64 ((n * 256 : Nat) : Int) ||| BitVec.ofInt 64 (b : Int)).toNat = n * 256 + b := by
  rw [BitVec.toNat_or, BitVec.ofInt_natCast, BitVec.ofInt_natCast, BitVec.toNat_ofNat, BitVec.toNat_ofNat, Nat.mod_eq_of_lt (by omega), Nat.mod_eq_of_lt (by omega)]
  have := Nat.shiftLeft_add_eq_or_of_lt (b := b) (i := 8) (by omega) n
  rw [Nat.shiftLeft_eq] at this
  exact this.symm
 show IntKind.wrap .i64 (((BitVec.ofInt 64 ((n * 256 : Nat) : Int) ||| BitVec.ofInt 64 (b : Int)).toNat : Nat) : Int) = _
 rw [o, a0Y (by omega) (by omega)]
 omega
def a0H (xs : List D) : Prop := ∀ x ∈ xs, 0 ≤ x.toI ∧ x.toI ≤ 255
def pkB (len : Int) (big : Bool) (i : Int) : Int := bif big then i else len - 1 - i
def e0j (xs : List D) (big : Bool) : Nat → Int → Int → Int
 | 0, _, n => n
 | k + 1, i, n => e0j xs big k (i + 1) (256 * n + (xs.getD (pkB xs.length big i).toNat (.i 0)).toI)
def b3K (xs : List D) (big : Bool) : Int := e0j xs big xs.length 0 0
theorem b6W {n b i : Int} (h0 : 0 ≤ i) (h1 : 0 ≤ n) (h2 : n < 256 ^ i.toNat) (h3 : 0 ≤ b) (h4 : b ≤ 255) : 0 ≤ 256 * n + b ∧ 256 * n + b < 256 ^ (i + 1).toNat := by
 have e : (i + 1).toNat = i.toNat + 1 := by omega
 rw [e, Int.pow_succ]
 omega
theorem d2z {n i : Int} (h0 : 0 ≤ i) (h1 : i ≤ 4) (h2 : n < 256 ^ i.toNat) : n < 4294967296 := by
 have : i = 0 ∨ i = 1 ∨ i = 2 ∨ i = 3 ∨ i = 4 := by omega
 rcases this with rfl | rfl | rfl | rfl | rfl <;> simp at h2 <;> omega
theorem f1I {xs : List D} (h : a0H xs) {i : Int} (h0 : 0 ≤ i) (h1 : i < xs.length) : 0 ≤ (xs.getD i.toNat (.i 0)).toI ∧ (xs.getD i.toNat (.i 0)).toI ≤ 255 := h _ (a0S h0 h1)
section
variable {xs : List D}
theorem d2A {big : Bool} {i : Int} (h0 : 0 ≤ i) (h1 : i < xs.length) : 0 ≤ pkB xs.length big i ∧ pkB xs.length big i < xs.length := by
 unfold pkB; cases big <;> simp <;> omega
theorem b43 (hb : a0H xs) (big : Bool) : ∀ (k : Nat) (i n : Int), 0 ≤ i → i + k = xs.length → 0 ≤ n → n < 256 ^ i.toNat → 0 ≤ e0j xs big k i n ∧ e0j xs big k i n < 256 ^ xs.length
 | 0, i, n, h0, h1, h2, h3 => by
  have : i.toNat = xs.length := by omega
  rw [this] at h3
  exact ⟨h2, h3⟩
 | k + 1, i, n, h0, h1, h2, h3 => by
  obtain ⟨p0, p1⟩ := d2A (xs := xs) (big := big) h0 (by omega)
  obtain ⟨b0, b1⟩ := f1I hb p0 p1
  obtain ⟨q0, q1⟩ := b6W h0 h2 h3 b0 b1
  exact b43 hb big k (i + 1) _ (by omega) (by omega) q0 q1
theorem b44 (hb : a0H xs) (big : Bool) (hl : xs.length ≤ 4) : 0 ≤ b3K xs big ∧ b3K xs big < 4294967296 := by
 obtain ⟨h1, h2⟩ := b43 hb big xs.length 0 0 (by omega) (by omega) (by omega) (by simp)
 refine ⟨h1, ?_⟩
 have := d2z (i := (xs.length : Int)) (by omega) (by omega) (n := b3K xs big) (by unfold b3K; simpa using h2)
 exact this
theorem c37 (hN : maxLen < N) (hb : a0H xs) (big : Bool) (hl : xs.length ≤ 4) : c5V N xs big = some (b3K xs big) := by
 have hm : maxLen = 9223372036854775807 := rfl
 have key := a5i (A := Int × Int) (X := Option Int) (S := fun x kr => b2L N xs big xs.length x.1 x.2 (fun a b => kr (a, b)) (fun p => some p)) (L := fun m x => b6e N xs big xs.length m x.1 x.2 (fun p => some p)) (fun m x => rfl)
  (fun x => some (e0j xs big (xs.length - x.2).toNat x.2 x.1)) (fun x => 0 ≤ x.2 ∧ x.2 ≤ xs.length ∧ 0 ≤ x.1 ∧ x.1 < 256 ^ x.2.toNat) (fun x => (xs.length - x.2).toNat) ?_ N (0, 0) ⟨by decide, by show (0 : Int) ≤ _; omega, by decide, by decide⟩ (by simp; omega)
 ·have k2 : c95 N xs big xs.length 0 0 = some (b3K xs big) := by
   refine Eq.trans key ?_
   simp [b3K]
  unfold c5V c5U
  rw [k2]; rfl
 ·rintro ⟨n, i⟩ kr ⟨h0, h1, h2, h3⟩ ih
  simp only at h0 h1 h2 h3 ih ⊢
  unfold b2L
  by_cases hw : i < xs.length
  ·obtain ⟨p0, p1⟩ := d2A (xs := xs) (big := big) h0 hw
   obtain ⟨b0, b1⟩ := f1I hb p0 p1
   obtain ⟨q0, q1⟩ := b6W h0 h2 h3 b0 b1
   have hn := d2z h0 (by omega) h3
   have hv : a7a N i (IntKind.wrap .i64 ((IntKind.wrap .i64 ((xs.length : Int) - 1)) - i)) big = pkB xs.length big i := by
    rw [a0Y (x := (xs.length : Int) - 1) (by omega) (by omega), a0Y (x := (xs.length : Int) - 1 - i) (by omega) (by omega)]
    unfold a7a a5r pkB
    cases big <;> rfl
   have ho := e2O (n := n.toNat) (b := (xs.getD (pkB xs.length big i).toNat (.i 0)).toI.toNat) (by omega) (by omega)
   rw [Int.toNat_of_nonneg h2, Int.toNat_of_nonneg b0] at ho
   rw [decide_eq_true hw]
   simp only [f22, a0s, hv, a0P p0 p1, ho, a0Y (x := i + 1) (by omega) (by omega)]
   rw [ih (_, i + 1) ⟨by simp only; omega, by simp only; omega, q0, q1⟩ (by simp only; omega)]
   have e : (xs.length - i).toNat = (xs.length - (i + 1)).toNat + 1 := by omega
   rw [e]
   rfl
  ·have : i = xs.length := by omega
   subst this
   rw [decide_eq_false hw]
   simp [e0j]
theorem d70 (hN : maxLen < N) (hb : a0H xs) (big : Bool) (hl : xs.length ≤ 4) : c6M N xs big = some (b3K xs big) := by
 have hm : maxLen = 9223372036854775807 := rfl
 have key := a5i (A := Int × Int) (X := Option Int) (S := fun x kr => b22 N xs big xs.length x.1 x.2 (fun a b => kr (a, b)) (fun p => some p)) (L := fun m x => b6K N xs big xs.length m x.1 x.2 (fun p => some p)) (fun m x => rfl)
  (fun x => some (e0j xs big (xs.length - x.2).toNat x.2 x.1)) (fun x => 0 ≤ x.2 ∧ x.2 ≤ xs.length ∧ 0 ≤ x.1 ∧ x.1 < 256 ^ x.2.toNat) (fun x => (xs.length - x.2).toNat) ?_ N (0, 0) ⟨by decide, by show (0 : Int) ≤ _; omega, by decide, by decide⟩ (by simp; omega)
 ·have k2 : d1Y N xs big xs.length 0 0 = some (b3K xs big) := by
   refine Eq.trans key ?_
   simp [b3K]
  unfold c6M c6L
  rw [k2]; rfl
 ·rintro ⟨n, i⟩ kr ⟨h0, h1, h2, h3⟩ ih
  simp only at h0 h1 h2 h3 ih ⊢
  unfold b22
  by_cases hw : i < xs.length
  ·obtain ⟨p0, p1⟩ := d2A (xs := xs) (big := big) h0 hw
   obtain ⟨b0, b1⟩ := f1I hb p0 p1
   obtain ⟨q0, q1⟩ := b6W h0 h2 h3 b0 b1
   have hn := d2z h0 (by omega) h3
   have hv : a7G N xs i i (!big) = pkB xs.length big i := by
    unfold a7G a7F pkB
    rw [a0Y (x := (xs.length : Int) - 1) (by omega) (by omega), a0Y (x := (xs.length : Int) - 1 - i) (by omega) (by omega)]
    cases big <;> rfl
   have ho : IntKind.wrap .i64 ((IntKind.wrap .i64 (256 * n)) + (IntKind.wrap .i64 (xs.getD (pkB xs.length big i).toNat (.i 0)).toI)) = 256 * n + (xs.getD (pkB xs.length big i).toNat (.i 0)).toI := by
    rw [a0Y (x := 256 * n) (by omega) (by omega), a0Y (x := (xs.getD (pkB xs.length big i).toNat (.i 0)).toI) (by omega) (by omega), a0Y (by omega) (by omega)]
   rw [decide_eq_true hw]
   simp only [f22, a0s, hv, a0P p0 p1, ho, a0Y (x := i + 1) (by omega) (by omega)]
   rw [ih (_, i + 1) ⟨by simp only; omega, by simp only; omega, q0, q1⟩ (by simp only; omega)]
   have e : (xs.length - i).toNat = (xs.length - (i + 1)).toNat + 1 := by omega
   rw [e]
   rfl
  ·have : i = xs.length := by omega
   subst this
   rw [decide_eq_false hw]
   simp [e0j]
end
theorem d71 : a7b N 4 false = some 4294967295 := by
 unfold a7b c1B
 have e1 : IntKind.wrap .i64 (8 * 4) = 32 := by decide
 rw [e1]
 have e2 : IntKind.wrap .i64 (1 * 2 ^ (min (32 : Int).toNat 64)) = 4294967296 := by decide
 have e3 : IntKind.wrap .i64 ((4294967296 : Int) - 1) = 4294967295 := by decide
 simp only [f23, a0s, e2, e3]
 rfl
structure Slots (p s : D) : Prop where
 known : ∀ j : Nat, j < 16 → (p.cell (0 + j * 6)).toB = (s.cell (0 + j * 1)).toB
 defs : ∀ j : Nat, j < 16 → (p.cell (0 + j * 6)).toB = true → a1I (p.cell (3 + j * 6)).items ∧ (p.cell (1 + j * 6)).toB = (s.cell (16 + j * 3)).toB ∧ (p.cell (2 + j * 6)).toI = (s.cell (17 + j * 3)).toI ∧
  (p.cell (3 + j * 6)).items = (s.cell (18 + j * 3)).items ∧ (p.cell (4 + j * 6)).toI = szL (p.cell (3 + j * 6)).items ∧ (p.cell (5 + j * 6)).toI = tmL 0 (p.cell (3 + j * 6)).items
structure Sim (p s : D) (k : Int) : Prop extends Slots p s where
 last : (p.cell 96).toI = (s.cell 64).toI
 lo : -1 ≤ (p.cell 96).toI
 hi : (p.cell 96).toI ≤ 4294967295 + 32 * k
structure f0V (ds data : List D) : Prop where
 d : ds.length ≤ maxLen
 b : data.length ≤ maxLen
 f : ∀ x ∈ ds, (x.cell 2).items.length ≤ maxLen
 y : a0H data
def c38 (kind slot off : Int) (ds data : List D) (known : Bool) (size time last : Int) : Int :=
 bif !inI kind 1 3 then 7 else bif !inI slot 0 (bif kind == 3 then 3 else 15) || !inI off 0 (bif kind == 3 then 31 else 0) then 9 else
 bif kind == 1 then (bif ((ds.length : Int) != 1) || decide ((data.length : Int) > 0) then 2 else c7J ((ds.getD 0 (.i 0)).cell 1).toI ((ds.getD 0 (.i 0)).cell 2).items) else
 bif (ds.length : Int) != 0 then 2 else bif !known || ((kind == 3) && (decide (time < 0) || decide (last < 0))) then 11 else bif (data.length : Int) != (bif kind == 3 then size - 4 else size) then 2 else 0
section
variable {kind slot off : Int} {ds data : List D} {p s : D} {k : Int}
theorem b3a (h : inI slot 0 (bif kind == 3 then 3 else 15) = true) : inB slot 16 = true ∧ slot.toNat < 16 := by
 unfold inI at h
 cases hk : kind == 3 <;> rw [hk] at h <;> simp at h <;> exact ⟨a0P (by omega) (by omega), by omega⟩
theorem d72 (hN : maxLen < N) (hs : Sim p s k) (he : f0V ds data) : c9S N kind slot off ds data p = some (c38 kind slot off ds data (p.cell (0 + slot.toNat * 6)).toB (p.cell (4 + slot.toNat * 6)).toI (p.cell (5 + slot.toNat * 6)).toI (p.cell 96).toI) := by
 have hm : maxLen = 9223372036854775807 := rfl
 unfold c9S c9R c38 a99 a5n b0a a5o b0b a68 b0c a5p
 simp only [a0s, b0T]
 cases h1 : inI kind 1 3 with
 | false => rfl
 | true =>
 have e14 : (bif kind == 3 then ((3 : Int), (31 : Int)) else (15, 0)) = ((bif kind == 3 then 3 else 15), (bif kind == 3 then 31 else 0)) := by cases kind == 3 <;> rfl
 rw [e14]
 simp only [Bool.not_true, f23]
 cases h2 : inI slot 0 (bif kind == 3 then 3 else 15) with
 | false => rfl
 | true =>
 obtain ⟨i1, i2⟩ := b3a h2
 cases h3 : inI off 0 (bif kind == 3 then 31 else 0) with
 | false => rfl
 | true =>
 simp only [Bool.not_true, f23, Bool.or_self]
 by_cases hk : kind = 1
 ·subst hk
  simp only [beq_self_eq_true, f22]
  cases h4 : ((ds.length : Int) != 1) with
  | true => rfl
  | false =>
   have hl : ds.length = 1 := by simp at h4; omega
   cases decide ((data.length : Int) > 0) with
   | true => rfl
   | false =>
    have hmem : ds.getD 0 (.i 0) ∈ ds := a0S (w := 0) (by omega) (by omega)
    simp only [f23, Bool.or_self]
    rw [a0P (by omega) (by omega), d7W hN _ (he.f _ hmem)]
    rfl
 ·have hk1 : (kind == 1) = false := by simpa using hk
  rw [hk1]
  simp only [f23]
  cases h4 : ((ds.length : Int) != 0) with
  | true => rfl
  | false =>
   simp only [f23, i1, f22]
   cases hkn : (p.cell (0 + slot.toNat * 6)).toB with
   | false => rfl
   | true =>
    obtain ⟨d1, _, _, _, d5, d6⟩ := hs.defs _ i2 hkn
    have hb := a3b d1.size
    have hl := d1.len
    cases hk3 : kind == 3 with
    | false =>
     simp only [Bool.not_true, f23, Bool.false_and, Bool.or_self]
     cases ((data.length : Int) != (p.cell (4 + slot.toNat * 6)).toI) <;> rfl
    | true =>
     simp only [Bool.not_true, f23, f22, Bool.true_and, Bool.false_or]
     cases decide ((p.cell (5 + slot.toNat * 6)).toI < 0) with
     | true => rfl
     | false =>
      cases decide ((p.cell 96).toI < 0) with
      | true => rfl
      | false =>
       simp only [f23, Bool.or_self]
       rw [a0Y (by omega) (by omega)]
       cases ((data.length : Int) != (p.cell (4 + slot.toNat * 6)).toI - 4) <;> rfl
theorem d73 (hN : maxLen < N) (hs : Sim p s k) (he : f0V ds data) : d1T N kind slot off ds data s = some (c38 kind slot off ds data (p.cell (0 + slot.toNat * 6)).toB (p.cell (4 + slot.toNat * 6)).toI (p.cell (5 + slot.toNat * 6)).toI (p.cell 96).toI) := by
 have hm : maxLen = 9223372036854775807 := rfl
 unfold d1T d1S c38 b0I a5A b0J a7E
 simp only [a0s, b0U]
 cases h1 : inI kind 1 3 with
 | false => rfl
 | true =>
 have e14 : (bif kind == 3 then ((3 : Int), (31 : Int)) else (15, 0)) = ((bif kind == 3 then 3 else 15), (bif kind == 3 then 31 else 0)) := by cases kind == 3 <;> rfl
 rw [e14]
 simp only [Bool.not_true, f23]
 cases h2 : inI slot 0 (bif kind == 3 then 3 else 15) with
 | false => rfl
 | true =>
 obtain ⟨i1, i2⟩ := b3a h2
 cases h3 : inI off 0 (bif kind == 3 then 31 else 0) with
 | false => rfl
 | true =>
 simp only [Bool.not_true, f23, Bool.or_self]
 by_cases hk : kind = 1
 ·subst hk
  simp only [beq_self_eq_true, f22]
  cases h4 : ((ds.length : Int) != 1) with
  | true => rfl
  | false =>
   have hl : ds.length = 1 := by simp at h4; omega
   cases decide ((data.length : Int) > 0) with
   | true => rfl
   | false =>
    have hmem : ds.getD 0 (.i 0) ∈ ds := a0S (w := 0) (by omega) (by omega)
    simp only [f23, Bool.or_self]
    rw [a0P (by omega) (by omega), d7X hN _ (he.f _ hmem)]
    rfl
 ·have hk1 : (kind == 1) = false := by simpa using hk
  have e0 : decide ((ds.length : Int) > 0) = ((ds.length : Int) != 0) := by rw [Bool.eq_iff_iff]; simp only [decide_eq_true_eq, bne_iff_ne]; omega
  rw [hk1, e0]
  simp only [f23]
  cases h4 : ((ds.length : Int) != 0) with
  | true => rfl
  | false =>
   simp only [f23, i1, f22, ← hs.known _ i2]
   cases hkn : (p.cell (0 + slot.toNat * 6)).toB with
   | false => rfl
   | true =>
    obtain ⟨d1, _, _, d4, d5, d6⟩ := hs.defs _ i2 hkn
    rw [← d4, ← hs.last, d5, d6, c35 hN d1]
    obtain ⟨nl, hf⟩ := c36 hN d1 (kind == 3)
    rw [hf]
    simp only [f27, getD_some, f22, d7Z hN (d1.flds _)]
    have z := b6U (a := 0) (by omega) d1.size
    cases hk3 : kind == 3 with
    | false =>
     simp only [Bool.not_true, f23, Bool.false_and, Bool.or_self, a2u]
     cases ((data.length : Int) != szL (p.cell (3 + slot.toNat * 6)).items) <;> rfl
    | true =>
     by_cases ht : tmL 0 (p.cell (3 + slot.toNat * 6)).items < 0
     ·simp only [decide_eq_true ht, f22]; rfl
     ·simp only [decide_eq_false ht, f23, f22, Bool.not_true, Bool.true_and, Bool.false_or, z.2 (by omega)]
      cases decide ((p.cell 96).toI < 0) with
      | true => rfl
      | false =>
       simp only [f23]
       cases ((data.length : Int) != szL (p.cell (3 + slot.toNat * 6)).items - 4) <;> rfl
end
end Go.Proofs.Ytfogaejiehebeaa

namespace Go.Proofs.Ytfogaejiehebeaa
open Go Go.AM
set_option maxRecDepth 100000
set_option maxHeartbeats 4000000
variable {N : Nat}
structure f1J (kind slot off : Int) (ds data : List D) (known : Bool) (size time last : Int) : Prop where
 k : 1 ≤ kind ∧ kind ≤ 3
 s : inB slot 16 = true ∧ slot.toNat < 16
 d : kind = 1 → ds.length = 1 ∧ c7J ((ds.getD 0 (.i 0)).cell 1).toI ((ds.getD 0 (.i 0)).cell 2).items = 0
 n : kind ≠ 1 → known = true ∧ ds.length = 0
 h : kind = 3 → 0 ≤ time ∧ 0 ≤ last ∧ 0 ≤ off ∧ off ≤ 31 ∧ (data.length : Int) = size - 4
 t : kind = 2 → (data.length : Int) = size
section
variable {kind slot off : Int} {ds data : List D} {p s : D} {k : Int}
theorem a2E {known : Bool} {size time last : Int} (h : c38 kind slot off ds data known size time last = 0) : f1J kind slot off ds data known size time last := by
 unfold c38 at h
 cases h1 : inI kind 1 3 with
 | false => rw [h1] at h; exact absurd (show (7 : Int) = 0 from h) (by decide)
 | true =>
 cases h2 : inI slot 0 (bif kind == 3 then 3 else 15) with
 | false => rw [h1, h2] at h; exact absurd (show (9 : Int) = 0 from h) (by decide)
 | true =>
 cases h3 : inI off 0 (bif kind == 3 then 31 else 0) with
 | false => rw [h1, h2, h3] at h; exact absurd (show (9 : Int) = 0 from h) (by decide)
 | true =>
 rw [h1, h2, h3] at h
 simp only [Bool.not_true, f23, Bool.or_self] at h
 have hkr : 1 ≤ kind ∧ kind ≤ 3 := by unfold inI at h1; simpa using h1
 by_cases hk : kind = 1
 ·subst hk
  simp only [beq_self_eq_true, f22] at h
  cases h4 : ((ds.length : Int) != 1) || decide ((data.length : Int) > 0) with
  | true => rw [h4] at h; exact absurd (show (2 : Int) = 0 from h) (by decide)
  | false =>
   rw [h4] at h
   simp only [Bool.or_eq_false_iff, bne_eq_false_iff_eq] at h4
   exact ⟨hkr, b3a h2, fun _ => ⟨by omega, h⟩, fun hn => absurd rfl hn, fun h => by omega, fun h => by omega⟩
 ·have hk1 : (kind == 1) = false := by simpa using hk
  rw [hk1] at h
  simp only [f23] at h
  cases h4 : ((ds.length : Int) != 0) with
  | true => rw [h4] at h; exact absurd (show (2 : Int) = 0 from h) (by decide)
  | false =>
  rw [h4] at h
  simp only [f23] at h
  cases h5 : !known || ((kind == 3) && (decide (time < 0) || decide (last < 0))) with
  | true => rw [h5] at h; exact absurd (show (11 : Int) = 0 from h) (by decide)
  | false =>
  rw [h5] at h
  simp only [f23] at h
  cases h6 : ((data.length : Int) != (bif kind == 3 then size - 4 else size)) with
  | true => rw [h6] at h; exact absurd (show (2 : Int) = 0 from h) (by decide)
  | false =>
  simp only [bne_eq_false_iff_eq] at h4 h6
  simp only [Bool.or_eq_false_iff, Bool.not_eq_false'] at h5
  refine ⟨hkr, b3a h2, fun h => absurd h hk, fun _ => ⟨h5.1, by omega⟩, fun h3' => ?_, fun h2' => ?_⟩
  ·subst h3'
   simp at h3 h5 h6
   unfold inI at h3
   simp at h3
   omega
  ·subst h2'
   simpa using h6
theorem f2n {a : Nat} {x0 x1 x2 x3 x4 x5 : D} (j : Nat) : let q := (((((p.put (0 + a * 6) x0).put (1 + a * 6) x1).put (2 + a * 6) x2).put (3 + a * 6) x3).put (4 + a * 6) x4).put (5 + a * 6) x5
  q.cell (0 + j * 6) = (if j = a then x0 else p.cell (0 + j * 6)) ∧ q.cell (1 + j * 6) = (if j = a then x1 else p.cell (1 + j * 6)) ∧ q.cell (2 + j * 6) = (if j = a then x2 else p.cell (2 + j * 6)) ∧
  q.cell (3 + j * 6) = (if j = a then x3 else p.cell (3 + j * 6)) ∧ q.cell (4 + j * 6) = (if j = a then x4 else p.cell (4 + j * 6)) ∧ q.cell (5 + j * 6) = (if j = a then x5 else p.cell (5 + j * 6)) := by
 simp only [a1L]
 by_cases h : j = a
 ·subst h
  simp
 ·simp only [if_neg h]
  refine ⟨?_, ?_, ?_, ?_, ?_, ?_⟩ <;> rw [if_neg (by omega), if_neg (by omega), if_neg (by omega), if_neg (by omega), if_neg (by omega), if_neg (by omega)]
theorem d2B {a : Nat} {x0 x1 x2 x3 x4 x5 : D} (ha : a < 16) : ((((((p.put (0 + a * 6) x0).put (1 + a * 6) x1).put (2 + a * 6) x2).put (3 + a * 6) x3).put (4 + a * 6) x4).put (5 + a * 6) x5).cell 96 = p.cell 96 := by
 simp only [a1L]
 rw [if_neg (by omega), if_neg (by omega), if_neg (by omega), if_neg (by omega), if_neg (by omega), if_neg (by omega)]
theorem f1K {a : Nat} {x0 x1 x2 x3 : D} (ha : a < 16) (j : Nat) (hj : j < 16) : let q := (((s.put (0 + a * 1) x0).put (16 + a * 3) x1).put (17 + a * 3) x2).put (18 + a * 3) x3
  q.cell (0 + j * 1) = (if j = a then x0 else s.cell (0 + j * 1)) ∧ q.cell (16 + j * 3) = (if j = a then x1 else s.cell (16 + j * 3)) ∧ q.cell (17 + j * 3) = (if j = a then x2 else s.cell (17 + j * 3)) ∧
  q.cell (18 + j * 3) = (if j = a then x3 else s.cell (18 + j * 3)) ∧ q.cell 64 = s.cell 64 := by
 simp only [a1L]
 refine ⟨?_, ?_, ?_, ?_, ?_⟩
 ·rw [if_neg (by omega), if_neg (by omega), if_neg (by omega)]
  by_cases h : j = a
  ·rw [if_pos (by omega), if_pos h]
  ·rw [if_neg (by omega), if_neg h]
 ·rw [if_neg (by omega), if_neg (by omega)]
  by_cases h : j = a
  ·rw [if_pos (by omega), if_pos h]
  ·rw [if_neg (by omega), if_neg (by omega), if_neg h]
 ·rw [if_neg (by omega)]
  by_cases h : j = a
  ·rw [if_pos (by omega), if_pos h]
  ·rw [if_neg (by omega), if_neg (by omega), if_neg (by omega), if_neg h]
 ·by_cases h : j = a
  ·rw [if_pos (by omega), if_pos h]
  ·rw [if_neg (by omega), if_neg (by omega), if_neg (by omega), if_neg (by omega), if_neg h]
 ·rw [if_neg (by omega), if_neg (by omega), if_neg (by omega), if_neg (by omega)]
theorem Slots.last (h : Slots p s) {x : D} : Slots p (s.put 64 x) := by
 have c2 : ∀ j : Nat, j < 16 → (s.put 64 x).cell (0 + j * 1) = s.cell (0 + j * 1) ∧ (s.put 64 x).cell (16 + j * 3) = s.cell (16 + j * 3) ∧ (s.put 64 x).cell (17 + j * 3) = s.cell (17 + j * 3) ∧ (s.put 64 x).cell (18 + j * 3) = s.cell (18 + j * 3) := fun j hj => by
  refine ⟨?_, ?_, ?_, ?_⟩ <;> rw [a1L, if_neg (by omega)]
 refine ⟨fun j hj => ?_, fun j hj hk => ?_⟩
 ·rw [(c2 j hj).1]; exact h.known j hj
 ·rw [(c2 j hj).2.1, (c2 j hj).2.2.1, (c2 j hj).2.2.2]
  exact h.defs j hj hk
theorem Sim.more (h : Sim p s k) : Sim p s (k + 1) := ⟨h.toSlots, h.last, h.lo, by have := h.hi; omega⟩
theorem d74 {t : Int} (h0 : 0 ≤ t) (h1 : t + 4 ≤ data.length) (hl : data.length ≤ maxLen) (hb : a0H data) : IntKind.wrap .i64 (t + 4) = t + 4 ∧ ((data.take (t + 4).toNat).drop t.toNat).length = 4 ∧ a0H ((data.take (t + 4).toNat).drop t.toNat) := by
 have hm : maxLen = 9223372036854775807 := rfl
 exact ⟨a0Y (by omega) (by omega), by simp; omega, fun x hx => hb x (List.mem_of_mem_take (List.mem_of_mem_drop hx))⟩
end
end Go.Proofs.Ytfogaejiehebeaa

namespace Go.Proofs.Ytfogaejiehebeaa
open Go Go.AM
set_option maxRecDepth 100000
set_option maxHeartbeats 4000000
variable {N : Nat}
def a3x (x : D) : Prop := f0V (x.cell 3).items (x.cell 4).items
def b3b : D := .a (List.replicate 16 (.b false) ++ (List.replicate 16 [D.b false, D.i 0, D.l true []]).flatten ++ [.i (-1)])
section
variable {es : List D}
end
end Go.Proofs.Ytfogaejiehebeaa

namespace Go.Proofs.Ytfogaejiehebeaa
open Go Go.AM
set_option maxRecDepth 100000
set_option maxHeartbeats 4000000
set_option linter.unusedVariables false
variable {N : Nat}
section
variable {es : List D}
end
end Go.Proofs.Ytfogaejiehebeaa

namespace Go.Proofs.Ytfogaejiehebeaa
open Go Go.AM
set_option maxRecDepth 100000
set_option maxHeartbeats 4000000
set_option linter.unusedVariables false
variable {N : Nat}
section
variable {bs : List D}
theorem a0H.drop (hb : a0H bs) (a : Nat) : a0H (bs.drop a) := fun x hx => hb x (List.mem_of_mem_drop hx)
def by_ (bs : List D) (i : Int) : Int := (bs.getD i.toNat (.i 0)).toI
end
end Go.Proofs.Ytfogaejiehebeaa

namespace Go.Proofs.Ytfogaejiehebeaa
open Go Go.AM
set_option maxRecDepth 100000
set_option maxHeartbeats 4000000
set_option linter.unusedVariables false
variable {N : Nat}
section
variable {bs : List D}
end
end Go.Proofs.Ytfogaejiehebeaa

namespace Go.Proofs.Ytfogaejiehebeaa
open Go Go.AM
set_option maxRecDepth 100000
set_option maxHeartbeats 4000000
set_option linter.unusedVariables false
variable {N : Nat}
section
variable {bs : List D} {p s : D}
end
end Go.Proofs.Ytfogaejiehebeaa

namespace Go.Proofs.Ytfogaejiehebeaa
open Go Go.AM
set_option maxRecDepth 100000
set_option maxHeartbeats 4000000
set_option linter.unusedVariables false
variable {N : Nat}
section
variable {bs : List D} {p s : D}
end
end Go.Proofs.Ytfogaejiehebeaa

namespace Go.Proofs.Ytfogaejiehebeaa
open Go Go.AM
set_option maxRecDepth 100000
set_option maxHeartbeats 4000000
set_option linter.unusedVariables false
variable {N : Nat}
section
variable {bs : List D} {p s : D}
end
end Go.Proofs.Ytfogaejiehebeaa

namespace Go.Proofs.Ytfogaejiehebeaa
open Go Go.AM
set_option maxRecDepth 100000
set_option maxHeartbeats 4000000
set_option linter.unusedVariables false
variable {N : Nat}
section
variable {b : List D}
structure Lst (l : List D) : Prop where
 e : ∀ x ∈ l, a3x x
 n : l.length ≤ 10000000
theorem Lst.nil : Lst [] := ⟨by simp, by simp⟩
end
end Go.Proofs.Ytfogaejiehebeaa

namespace Go.Proofs.Ytfogaejiehebeaa
open Go Go.AM
set_option maxRecDepth 100000
set_option maxHeartbeats 4000000
set_option linter.unusedVariables false
variable {N : Nat}
section
variable {b : List D}
end
end Go.Proofs.Ytfogaejiehebeaa

namespace Go.Proofs.Ytfogaejiehebeaa
open Go Go.AM
set_option maxRecDepth 100000
set_option maxHeartbeats 4000000
set_option linter.unusedVariables false
variable {N : Nat}
theorem b3c : ∀ xs : List D, a7T (fun _ _ => true) xs xs = true
 | [] => rfl
 | x :: r => by simp only [a7T, Bool.true_and]; exact b3c r
theorem d2C {xs : List D} {w : Int} (h : inB w xs.length = true) : xs.getD w.toNat (.i 0) ∈ xs := by
 unfold inB at h
 simp at h
 exact a0S h.1 h.2
theorem c39 {xs : List D} {S : Int → (Int → Option (Sum Unit Unit)) → Option (Sum Unit Unit)} {L : Nat → Int → Option (Sum Unit Unit)} (hL : ∀ m a, L (m + 1) a = S a (L m)) (hlen : xs.length ≤ maxLen)
  (hend : ∀ kr, S xs.length kr = some (.inr ()))
  (hstep : ∀ (w : Int) (kr : Int → Option (Sum Unit Unit)), decide (w < xs.length) = true → inB w xs.length = true → xs.getD w.toNat (.i 0) ∈ xs → S w kr = kr (IntKind.wrap .i64 (w + 1)))
  (hN : maxLen < N) : L N 0 = some (.inr ()) := by
 have := d2x (xs := xs) (ys := xs) (fun _ _ => true) hL hlen rfl hend (fun w kr h1 h2 _ => by rw [hstep w kr h1 h2 (d2C h2)]; rfl) hN
 rw [this, b3c]
 rfl
section
variable {xs : List D}
theorem b6X (xs : List D) : ((xs.length : Int) != (xs.length : Int)) = false := by simp
theorem d2D (hN : maxLen < N) (hl : xs.length ≤ maxLen) : d2E N xs xs = some true := by
 have k : c4a N xs xs xs.length 0 = some (.inr ()) := by
  refine c39 (S := fun w kr => a5D N xs xs xs.length w kr _ _) (L := fun m w => b0V N xs xs xs.length m w _ _) (fun m w => rfl) hl (fun kr => by simp [a5D]) (fun w kr h1 h2 h3 => ?_) hN
  unfold a5D
  rw [h1, h2]
  simp [a0s]
 unfold d2E c6X
 rw [b6X, k]; rfl
theorem d75 (hN : maxLen < N) (hl : xs.length ≤ maxLen) : d2F N xs xs = some true := by
 have k : c4b N xs xs xs.length 0 = some (.inr ()) := by
  refine c39 (S := fun w kr => a5E N xs xs xs.length w kr _ _) (L := fun m w => b0W N xs xs xs.length m w _ _) (fun m w => rfl) hl (fun kr => by simp [a5E]) (fun w kr h1 h2 h3 => ?_) hN
  unfold a5E
  rw [h1, h2]
  simp [a0s]
 unfold d2F c6Y
 rw [b6X, k]; rfl
theorem d2G (hN : maxLen < N) (hl : xs.length ≤ maxLen) (a : Bool) (g : Int) : d2H N a g xs a g xs = some true := by
 unfold d2H d2I b6Y b3d
 rw [d2D hN hl]
 simp [a0s]
end
end Go.Proofs.Ytfogaejiehebeaa

namespace Go.Proofs.Ytfogaejiehebeaa
open Go Go.AM
set_option maxRecDepth 100000
set_option maxHeartbeats 4000000
set_option linter.unusedVariables false
variable {N : Nat}
abbrev kX (x : D) : Int := (x.cell 0).toI
abbrev sX (x : D) : Int := (x.cell 1).toI
abbrev oX (x : D) : Int := (x.cell 2).toI
abbrev dX (x : D) : List D := (x.cell 3).items
abbrev bX (x : D) : List D := (x.cell 4).items
structure Ab where
 kn : Nat → Bool
 bg : Nat → Bool
 gl : Nat → Int
 fs : Nat → List D
 last : Int
def Ab.start : Ab := ⟨fun _ => false, fun _ => false, fun _ => 0, fun _ => [], -1⟩
def upA {α : Type} (f : Nat → α) (j : Nat) (x : α) : Nat → α := fun i => if i = j then x else f i
def c6Z (a : Ab) (kind slot off : Int) (data : List D) : Int :=
 bif kind == 1 then -1 else bif kind == 3 then a.last + (off - a.last % 32 + 32) % 32 else
 bif decide (tmL 0 (a.fs slot.toNat) < 0) then -1 else
 bif b3K ((data.take (tmL 0 (a.fs slot.toNat) + 4).toNat).drop (tmL 0 (a.fs slot.toNat)).toNat) (a.bg slot.toNat) == 4294967295 then -1 else b3K ((data.take (tmL 0 (a.fs slot.toNat) + 4).toNat).drop (tmL 0 (a.fs slot.toNat)).toNat) (a.bg slot.toNat)
def b6Z (a : Ab) (kind slot off : Int) (ds data : List D) : Ab :=
 bif kind == 1 then { a with kn := upA a.kn slot.toNat true, bg := upA a.bg slot.toNat ((ds.getD 0 (.i 0)).cell 0).toB, gl := upA a.gl slot.toNat ((ds.getD 0 (.i 0)).cell 1).toI, fs := upA a.fs slot.toNat ((ds.getD 0 (.i 0)).cell 2).items } else
 { a with last := bif decide (c6Z a kind slot off data ≥ 0) then c6Z a kind slot off data else a.last }
abbrev c60 (a : Ab) (x : D) : Int := c6Z a (kX x) (sX x) (oX x) (bX x)
abbrev a2a (a : Ab) (x : D) : Ab := b6Z a (kX x) (sX x) (oX x) (dX x) (bX x)
def e2P (a : Ab) (kind slot off : Int) (ds data : List D) : Int := c38 kind slot off ds data (a.kn slot.toNat) (szL (a.fs slot.toNat)) (tmL 0 (a.fs slot.toNat)) a.last
abbrev c2f (a : Ab) (x : D) : Int := e2P a (kX x) (sX x) (oX x) (dX x) (bX x)
structure SlP (p : D) (a : Ab) : Prop where
 kn : ∀ j : Nat, j < 16 → (p.cell (0 + j * 6)).toB = a.kn j
 df : ∀ j : Nat, j < 16 → a.kn j = true → a1I (a.fs j) ∧ (p.cell (1 + j * 6)).toB = a.bg j ∧ (p.cell (2 + j * 6)).toI = a.gl j ∧ (p.cell (3 + j * 6)).items = a.fs j ∧ (p.cell (4 + j * 6)).toI = szL (a.fs j) ∧ (p.cell (5 + j * 6)).toI = tmL 0 (a.fs j)
structure SlS (s : D) (a : Ab) : Prop where
 kn : ∀ j : Nat, j < 16 → (s.cell (0 + j * 1)).toB = a.kn j
 df : ∀ j : Nat, j < 16 → a.kn j = true → (s.cell (16 + j * 3)).toB = a.bg j ∧ (s.cell (17 + j * 3)).toI = a.gl j ∧ (s.cell (18 + j * 3)).items = a.fs j
structure Wk (p s : D) (a : Ab) (k : Int) : Prop where
 pp : SlP p a
 ss : SlS s a
 lp : (p.cell 96).toI = a.last
 ls : (s.cell 64).toI = a.last
 lo : -1 ≤ a.last
 hi : a.last ≤ 4294967295 + 32 * k
theorem d76 {p s : D} {a : Ab} (hp : SlP p a) (hs : SlS s a) : Slots p s :=
 ⟨fun j hj => by rw [hp.kn j hj, hs.kn j hj], fun j hj hk => by
  rw [hp.kn j hj] at hk
  obtain ⟨p1, p2, p3, p4, p5, p6⟩ := hp.df j hj hk
  obtain ⟨s1, s2, s3⟩ := hs.df j hj hk
  rw [p2, p3, p4, p5, p6, s1, s2, s3]
  exact ⟨p1, rfl, rfl, rfl, rfl, rfl⟩⟩
theorem Wk.sim {p s : D} {a : Ab} {k : Int} (h : Wk p s a k) : Sim p s k := ⟨d76 h.pp h.ss, by rw [h.lp, h.ls], by rw [h.lp]; exact h.lo, by rw [h.lp]; exact h.hi⟩
theorem c61 {kind slot off : Int} {ds data : List D} {size time size' time' last : Int} : c38 kind slot off ds data false size time last = c38 kind slot off ds data false size' time' last := by
 unfold c38; rfl
theorem e8f {p : D} {a : Ab} (hp : SlP p a) (lp : (p.cell 96).toI = a.last) {kind slot off : Int} {ds data : List D} : c38 kind slot off ds data (p.cell (0 + slot.toNat * 6)).toB (p.cell (4 + slot.toNat * 6)).toI (p.cell (5 + slot.toNat * 6)).toI (p.cell 96).toI = e2P a kind slot off ds data := by
 unfold e2P
 rw [lp]
 by_cases h1 : inI slot 0 (bif kind == 3 then 3 else 15) = true
 ·obtain ⟨_, h2⟩ := b3a h1
  rw [hp.kn _ h2]
  cases hk : a.kn slot.toNat with
  | false => exact c61
  | true =>
   obtain ⟨_, _, _, _, p5, p6⟩ := hp.df _ h2 hk
   rw [p5, p6]
 ·have h1 : inI slot 0 (bif kind == 3 then 3 else 15) = false := by simpa using h1
  unfold c38
  rw [h1]
  rfl
section
variable {kind slot off : Int} {ds data : List D} {p s : D} {a : Ab} {k : Int}
theorem e2Q (hp : SlP p a) {j : Nat} (i2 : j < 16) {big : Bool} {g : Int} {nl : Bool} {fs : List D} (hf : a1I fs) {last : Int} :
  SlP ((((((p.put (0 + j * 6) (.b true)).put (1 + j * 6) (.b big)).put (2 + j * 6) (.i g)).put (3 + j * 6) (.l nl fs)).put (4 + j * 6) (.i (szL fs))).put (5 + j * 6) (.i (tmL 0 fs))) { kn := upA a.kn j true, bg := upA a.bg j big, gl := upA a.gl j g, fs := upA a.fs j fs, last := last } := by
 refine ⟨fun i hi => ?_, fun i hi hkn => ?_⟩
 ·rw [(f2n i).1]
  unfold upA
  by_cases h : i = j
  ·simp only [if_pos h]; rfl
  ·simp only [if_neg h]; exact hp.kn i hi
 ·obtain ⟨a0, a1, a2, a3, a4, a5⟩ := f2n (p := p) (a := j) (x0 := .b true) (x1 := .b big) (x2 := .i g) (x3 := .l nl fs) (x4 := .i (szL fs)) (x5 := .i (tmL 0 fs)) i
  rw [a1, a2, a3, a4, a5]
  unfold upA at hkn ⊢
  by_cases h : i = j
  ·simp only [if_pos h]
   refine ⟨hf, ?_, ?_, ?_, ?_, ?_⟩ <;> first | trivial | rfl
  ·simp only [if_neg h] at hkn ⊢
   exact hp.df i hi hkn
theorem e2R (hs : SlS s a) {j : Nat} (i2 : j < 16) {big : Bool} {g : Int} {nl : Bool} {fs : List D} {last : Int} :
  SlS ((((s.put (0 + j * 1) (.b true)).put (16 + j * 3) (.b big)).put (17 + j * 3) (.i g)).put (18 + j * 3) (.l nl fs)) { kn := upA a.kn j true, bg := upA a.bg j big, gl := upA a.gl j g, fs := upA a.fs j fs, last := last } := by
 refine ⟨fun i hi => ?_, fun i hi hkn => ?_⟩
 ·rw [(f1K i2 i hi).1]
  unfold upA
  by_cases h : i = j
  ·simp only [if_pos h]; rfl
  ·simp only [if_neg h]; exact hs.kn i hi
 ·obtain ⟨b0, b1, b2, b3, _⟩ := f1K (s := s) (x0 := .b true) (x1 := .b big) (x2 := .i g) (x3 := .l nl fs) i2 i hi
  rw [b1, b2, b3]
  unfold upA at hkn ⊢
  by_cases h : i = j
  ·simp only [if_pos h]
   refine ⟨?_, ?_, ?_⟩ <;> first | trivial | rfl
  ·simp only [if_neg h] at hkn ⊢
   exact hs.df i hi hkn
theorem d77 (hp : SlP p a) {x : D} {l : Int} : SlP (p.put 96 x) { a with last := l } := by
 have c1 : ∀ c j : Nat, c < 6 → j < 16 → (p.put 96 x).cell (c + j * 6) = p.cell (c + j * 6) := fun c j hc hj => by rw [a1L, if_neg (by omega)]
 refine ⟨fun j hj => ?_, fun j hj hk => ?_⟩
 ·rw [c1 0 j (by omega) hj]; exact hp.kn j hj
 ·rw [c1 1 j (by omega) hj, c1 2 j (by omega) hj, c1 3 j (by omega) hj, c1 4 j (by omega) hj, c1 5 j (by omega) hj]
  exact hp.df j hj hk
theorem d78 (hs : SlS s a) {x : D} {l : Int} : SlS (s.put 64 x) { a with last := l } := by
 have c2 : ∀ j : Nat, j < 16 → (s.put 64 x).cell (0 + j * 1) = s.cell (0 + j * 1) ∧ (s.put 64 x).cell (16 + j * 3) = s.cell (16 + j * 3) ∧ (s.put 64 x).cell (17 + j * 3) = s.cell (17 + j * 3) ∧ (s.put 64 x).cell (18 + j * 3) = s.cell (18 + j * 3) := fun j hj => by
  refine ⟨?_, ?_, ?_, ?_⟩ <;> rw [a1L, if_neg (by omega)]
 refine ⟨fun j hj => ?_, fun j hj hk => ?_⟩
 ·rw [(c2 j hj).1]; exact hs.kn j hj
 ·rw [(c2 j hj).2.1, (c2 j hj).2.2.1, (c2 j hj).2.2.2]
  exact hs.df j hj hk
theorem Wk.put (h : Wk p s a k) {t : Int} (h0 : 0 ≤ t) (h1 : t ≤ 4294967295 + 32 * (k + 1)) : Wk (p.put 96 (.i t)) (s.put 64 (.i t)) { a with last := t } (k + 1) :=
 ⟨d77 h.pp, d78 h.ss, by simp [a1L, D.toI], by simp [a1L, D.toI], by simp only; omega, h1⟩
theorem Wk.more (h : Wk p s a k) : Wk p s a (k + 1) := ⟨h.pp, h.ss, h.lp, h.ls, h.lo, by have := h.hi; omega⟩
theorem b60 (hN : maxLen < N) (hs : Wk p s a k) (he : f0V ds data) (h0 : 0 ≤ k) (h1 : k ≤ 100000) (hE : e2P a kind slot off ds data = 0) :
  ∃ p' s', c1F N kind slot off ds data p = some (c6Z a kind slot off data, p') ∧ c6N N kind slot off ds data s = some (c6Z a kind slot off data, s') ∧ Wk p' s' (b6Z a kind slot off ds data) (k + 1) := by
 have hm : maxLen = 9223372036854775807 := rfl
 have hE := a2E hE
 obtain ⟨i1, i2⟩ := hE.s
 unfold c1F d0h a37 a25 c6N d16 b6Z c6Z
 have e38 : ∀ q, a5t N (-1) false q = q := fun q => rfl
 rw [i1]
 by_cases hk1 : kind = 1
 ·subst hk1
  obtain ⟨d1, d2⟩ := hE.d rfl
  have hf := c2e d2
  have q1 := d7Y hN hf
  simp only [beq_self_eq_true, f22, a0P (i := 0) (n := ds.length) (by omega) (by omega), a0s, q1, f27, getD_some]
  have e1 : decide ((-1 : Int) ≥ 0) = false := by decide
  rw [e1, e38]
  refine ⟨_, _, rfl, rfl, ?_⟩
  refine ⟨e2Q hs.pp i2 hf, e2R hs.ss i2, ?_, ?_, hs.lo, by have := hs.hi; simp only; omega⟩
  ·rw [d2B i2]; exact hs.lp
  ·rw [(f1K i2 0 (by omega)).2.2.2.2]; exact hs.ls
 ·have hk1' : (kind == 1) = false := by simpa using hk1
  obtain ⟨kn, _⟩ := hE.n hk1
  obtain ⟨d1, d2, d3, d4, d5, d6⟩ := hs.pp.df _ i2 kn
  obtain ⟨s2, s3, s4⟩ := hs.ss.df _ i2 kn
  unfold a36 a24
  rw [hk1']
  simp only [f23, a0s, hs.lp, hs.ls, d2, d6, s2, s4]
  have hlo := hs.lo
  have hhi := hs.hi
  by_cases hk3 : kind = 3
  ·subst hk3
   obtain ⟨t0, l0, o0, o1, _⟩ := hE.h rfl
   have m0 : a.last.tmod 32 = a.last % 32 := Int.tmod_eq_emod_of_nonneg l0
   have w1 : IntKind.wrap .i64 (off - a.last % 32) = off - a.last % 32 := a0Y (by omega) (by omega)
   have w2 : IntKind.wrap .i64 (off - a.last % 32 + 32) = off - a.last % 32 + 32 := a0Y (by omega) (by omega)
   have m1 : (off - a.last % 32 + 32).tmod 32 = (off - a.last % 32 + 32) % 32 := Int.tmod_eq_emod_of_nonneg (by omega)
   have w3 : IntKind.wrap .i64 (a.last + (off - a.last % 32 + 32) % 32) = a.last + (off - a.last % 32 + 32) % 32 := a0Y (by omega) (by omega)
   simp only [beq_self_eq_true, f22, m0, w1, w2, m1, w3, f27, getD_some, a5t, a38]
   rw [decide_eq_true (show a.last + (off - a.last % 32 + 32) % 32 ≥ 0 by omega)]
   simp only [f22]
   refine ⟨_, _, rfl, ?_, hs.put (t := a.last + (off - a.last % 32 + 32) % 32) (by omega) (by omega)⟩
   rw [a1L, if_pos rfl]
   rfl
  ·have hk2 : kind = 2 := by have := hE.k; omega
   subst hk2
   have hlen := hE.t rfl
   have e3 : ((2 : Int) == 3) = false := by decide
   rw [e3]
   unfold b0i a7c
   rw [c35 hN d1]
   have tb := b29 (a := 0) (by omega) d1.size
   by_cases ht : tmL 0 (a.fs slot.toNat) < 0
   ·rw [decide_eq_true ht, decide_eq_false (by omega : ¬ tmL 0 (a.fs slot.toNat) ≥ 0)]
    have e1 : decide ((-1 : Int) ≥ 0) = false := by decide
    refine ⟨p, s, ?_, ?_, hs.more⟩
    ·rfl
    ·rfl
   ·rw [decide_eq_false ht, decide_eq_true (by omega : tmL 0 (a.fs slot.toNat) ≥ 0)]
    have h4 : tmL 0 (a.fs slot.toNat) + 4 ≤ data.length := by rw [hlen]; omega
    generalize tmL 0 (a.fs slot.toNat) = tm at ht h4 ⊢
    obtain ⟨s1, s2, s3⟩ := d74 (by omega) h4 he.b he.y
    have nb := b44 s3 (a.bg slot.toNat) (by omega)
    have c0 : decide ((0 : Int) ≤ tm) = true := decide_eq_true (by omega)
    have c1 : decide (tm ≤ tm + 4) = true := decide_eq_true (by omega)
    have c2 : decide (tm + 4 ≤ (data.length : Int)) = true := decide_eq_true (by omega)
    have q1 := c37 hN s3 (a.bg slot.toNat) (by omega)
    have q2 := d70 hN s3 (a.bg slot.toNat) (by omega)
    simp only [f22, f23, a0s, Bool.and_self, s1, c0, c1, c2, q1, q2, d71, f27, getD_some, b0h, a5s, Bool.not_true, a5t, a38]
    generalize b3K ((data.take (tm + 4).toNat).drop tm.toNat) (a.bg slot.toNat) = n at nb ⊢
    by_cases hn : n = 4294967295
    ·subst hn
     exact ⟨p, s, rfl, rfl, hs.more⟩
    ·have e4 : (n != 4294967295) = true := by simpa using hn
     have e5 : (n == 4294967295) = false := by simpa using hn
     rw [e4, e5]
     simp only [f22, f23]
     rw [decide_eq_true (show n ≥ 0 by omega)]
     simp only [f22]
     exact ⟨_, _, rfl, rfl, hs.put (by omega) (by omega)⟩
end
def a3c : Ab → List D → Int
 | _, [] => 0
 | a, x :: r => bif c2f a x != 0 then c2f a x else a3c (a2a a x) r
def d2J : Ab → List D → List Int
 | _, [] => []
 | a, x :: r => c60 a x :: d2J (a2a a x) r
theorem d79 {p : D} (hp : (List.range 16).all (fun j => !(p.cell (0 + j * 6)).toB && !(b3b.cell (0 + j * 1)).toB) = true) (hl : (p.cell 96).toI = -1) : Wk p b3b Ab.start 0 := by
 have h : ∀ j : Nat, j < 16 → (p.cell (0 + j * 6)).toB = false ∧ (b3b.cell (0 + j * 1)).toB = false := fun j hj => by
  have := List.all_eq_true.1 hp j (List.mem_range.2 hj)
  simpa using this
 exact ⟨⟨fun j hj => (h j hj).1, fun j hj hk => absurd hk (by simp [Ab.start])⟩, ⟨fun j hj => (h j hj).2, fun j hj hk => absurd hk (by simp [Ab.start])⟩, hl, by kernel_rfl, by decide, by decide⟩
theorem c2g : Wk (a9T N) b3b Ab.start 0 := d79 (by kernel_rfl) (by kernel_rfl)
def fileE (es : List D) : Int := bif decide ((es.length : Int) > 50000) then 3 else a3c Ab.start es
section
variable {es : List D}
theorem c2h (hN : maxLen < N) (hes : ∀ x ∈ es, a3x x) (hl : es.length ≤ 50000) : ∀ (m : Nat) (i : Int) (p s : D) (a : Ab), 0 ≤ i → i ≤ es.length → (es.length - i).toNat < m → Wk p s a i →
  a7f N es es.length m i p (fun p => some (Sum.inl p)) (fun p => some (Sum.inr p)) = some (bif a3c a (es.drop i.toNat) != 0 then .inl (a3c a (es.drop i.toNat)) else .inr ()) ∧
  a7H N es es.length m i s (fun p => some (Sum.inl p)) (fun p => some (Sum.inr p)) = some (bif a3c a (es.drop i.toNat) != 0 then .inl (a3c a (es.drop i.toNat)) else .inr ()) := by
 intro m
 induction m with
 | zero => intro i p s a _ _ h; omega
 | succ m ih =>
  intro i p s a h0 h1 hm hs
  unfold a7f a7H b0j b0M
  by_cases hi : i < es.length
  ·have he : a3x _ := hes _ (a0S (fs := es) h0 hi)
   rw [decide_eq_true hi, a0P h0 hi, d72 hN hs.sim he, d73 hN hs.sim he, e8f hs.pp hs.lp, a2p (.i 0) h0 hi]
   simp only [f22, a0s, f27, getD_some, a3c]
   cases hz : (c2f a (es.getD i.toNat (.i 0)) != 0) with
   | false =>
    have hz' : c2f a (es.getD i.toNat (.i 0)) = 0 := by simpa using hz
    obtain ⟨p', s', q1, q2, hs'⟩ := b60 hN hs he h0 (by omega) hz'
    rw [q1, q2]
    simp only [f23, f27, f22, getD_some, a0Y (x := i + 1) (by omega) (by omega)]
    exact ih (i + 1) p' s' _ (by omega) (by omega) (by omega) hs'
   | true =>
    simp only [f22, hz]
    exact ⟨trivial, trivial⟩
  ·have : i = es.length := by omega
   subst this
   rw [decide_eq_false hi, a2t (by omega)]
   exact ⟨rfl, rfl⟩
theorem a4g (hN : maxLen < N) (hes : ∀ x ∈ es, a3x x) : b6k N es = some (fileE es) ∧ b9O N es = some (fileE es) := by
 unfold fileE
 by_cases hl : (es.length : Int) > 50000
 ·unfold b6k c1H b9O c13
  rw [decide_eq_true hl]; exact ⟨rfl, rfl⟩
 ·have hm : maxLen = 9223372036854775807 := rfl
  obtain ⟨q1, q2⟩ := c2h hN hes (by omega) N 0 (a9T N) b3b Ab.start (by omega) (by omega) (by omega) c2g
  have k1 : b6j N es es.length 0 (a9T N) = _ := q1
  have k2 : b6N N es es.length 0 b3b = _ := q2
  have k3 : b6k N es = bnd (b6j N es es.length 0 (a9T N)) (fun y1 => bif a07 y1 then some (a3p y1) else bif (a0I y1).isSome then some 0 else none) := by
   unfold b6k c1H
   rw [decide_eq_false hl]; rfl
  have k4 : b9O N es = bnd (b6N N es es.length 0 b3b) (fun y1 => bif a07 y1 then some (a3p y1) else bif (a0I y1).isSome then some 0 else none) := by
   unfold b9O c13
   rw [decide_eq_false hl]; rfl
  rw [k3, k4, k1, k2, decide_eq_false hl]
  simp only [show (0 : Int).toNat = 0 from rfl, List.drop_zero, f23]
  cases h : a3c Ab.start es != 0 with
  | true => exact ⟨rfl, rfl⟩
  | false =>
   have : a3c Ab.start es = 0 := by simpa using h
   rw [this]; exact ⟨rfl, rfl⟩
theorem a7U {a : Ab} {x : D} {r : List D} (h : a3c a (x :: r) = 0) : c2f a x = 0 ∧ a3c (a2a a x) r = 0 := by
 simp only [a3c] at h
 cases hz : (c2f a x != 0) with
 | true =>
  rw [hz] at h
  simp only [f22] at h
  rw [h] at hz; simp at hz
 | false =>
  rw [hz] at h
  exact ⟨by simpa using hz, h⟩
theorem b0X (h : fileE es = 0) : es.length ≤ 50000 ∧ a3c Ab.start es = 0 := by
 unfold fileE at h
 by_cases hl : (es.length : Int) > 50000
 ·rw [decide_eq_true hl] at h; exact absurd (show (3 : Int) = 0 from h) (by decide)
 ·rw [decide_eq_false hl] at h; exact ⟨by omega, h⟩
end
end Go.Proofs.Ytfogaejiehebeaa

namespace Go.Proofs.Ytfogaejiehebeaa
open Go Go.AM
set_option maxRecDepth 100000
set_option maxHeartbeats 4000000
set_option linter.unusedVariables false
variable {N : Nat}
def bt (n i : Int) : D := .i (IntKind.wrap .u8 (n.fdiv (2 ^ (min (IntKind.wrap .i64 (8 * i)).toNat 64))))
def nb1 (n : Int) : List D := [bt n 0]
def nb2 (n : Int) (big : Bool) : List D := bif big then [bt n 1, bt n 0] else [bt n 0, bt n 1]
def nb4 (n : Int) (big : Bool) : List D := bif big then [bt n 3, bt n 2, bt n 1, bt n 0] else [bt n 0, bt n 1, bt n 2, bt n 3]
theorem a8R (hN : maxLen < N) (j : Nat) (hj : j ≤ 1000) : ∃ k, N = k + j := by
 have hm : maxLen = 9223372036854775807 := rfl
 exact ⟨N - j, by omega⟩
theorem f1L (hN : maxLen < N) (n : Int) (big : Bool) : b6u N n 1 big = some (nb1 n) := by
 obtain ⟨k, rfl⟩ := a8R hN 8 (by omega)
 cases big <;> kernel_rfl
theorem f1M (hN : maxLen < N) (n : Int) (big : Bool) : b6u N n 2 big = some (nb2 n big) := by
 obtain ⟨k, rfl⟩ := a8R hN 8 (by omega)
 cases big <;> kernel_rfl
theorem f1N (hN : maxLen < N) (n : Int) (big : Bool) : b6u N n 4 big = some (nb4 n big) := by
 obtain ⟨k, rfl⟩ := a8R hN 8 (by omega)
 cases big <;> kernel_rfl
theorem f1O (hN : maxLen < N) (n : Int) (big : Bool) : b9U N n 1 big = some (nb1 n) := by
 obtain ⟨k, rfl⟩ := a8R hN 8 (by omega)
 cases big <;> kernel_rfl
theorem f1P (hN : maxLen < N) (n : Int) (big : Bool) : b9U N n 2 big = some (nb2 n big) := by
 obtain ⟨k, rfl⟩ := a8R hN 8 (by omega)
 cases big <;> kernel_rfl
theorem f1Q (hN : maxLen < N) (n : Int) (big : Bool) : b9U N n 4 big = some (nb4 n big) := by
 obtain ⟨k, rfl⟩ := a8R hN 8 (by omega)
 cases big <;> kernel_rfl
def u8 (n : Int) : D := .i (IntKind.wrap .u8 n)
theorem d2K {a : Ab} {kind slot off : Int} {ds data : List D} (hf : a.kn slot.toNat = true → a1I (a.fs slot.toNat)) (h : e2P a kind slot off ds data = 0) :
  (1 ≤ kind ∧ kind ≤ 3) ∧ (0 ≤ slot ∧ slot ≤ 15) ∧ (0 ≤ off ∧ off ≤ 31) ∧ (kind = 1 → ds.length = 1 ∧ ((ds.getD 0 (.i 0)).cell 2).items.length ≤ 255) ∧ data.length ≤ 65025 := by
 have hE := a2E h
 have hin : inI slot 0 (bif kind == 3 then 3 else 15) = true ∧ inI off 0 (bif kind == 3 then 31 else 0) = true ∧ (kind = 1 → data.length = 0) := by
  unfold e2P c38 at h
  cases h1 : inI kind 1 3 with
  | false => rw [h1] at h; exact absurd (show (7 : Int) = 0 from h) (by decide)
  | true =>
  cases h2 : inI slot 0 (bif kind == 3 then 3 else 15) with
  | false => rw [h1, h2] at h; exact absurd (show (9 : Int) = 0 from h) (by decide)
  | true =>
  cases h3 : inI off 0 (bif kind == 3 then 31 else 0) with
  | false => rw [h1, h2, h3] at h; exact absurd (show (9 : Int) = 0 from h) (by decide)
  | true =>
   refine ⟨rfl, rfl, fun hk => ?_⟩
   subst hk
   rw [h1, h2, h3] at h
   cases h4 : ((ds.length : Int) != 1) || decide ((data.length : Int) > 0) with
   | true => simp only [Bool.not_true, f23, Bool.or_self, beq_self_eq_true, f22, h4] at h; exact absurd h (by decide)
   | false => simp at h4; simp [h4.2]
 obtain ⟨n1, n2, n3⟩ := hin
 have m1 : 0 ≤ slot ∧ slot ≤ 15 := by cases hk : kind == 3 <;> rw [hk] at n1 <;> unfold inI at n1 <;> simp at n1 <;> omega
 have m2 : 0 ≤ off ∧ off ≤ 31 := by cases hk : kind == 3 <;> rw [hk] at n2 <;> unfold inI at n2 <;> simp at n2 <;> omega
 refine ⟨hE.k, m1, m2, fun hk => ⟨(hE.d hk).1, (c2e (hE.d hk).2).len⟩, ?_⟩
 by_cases hk : kind = 1
 ·rw [n3 hk]; omega
 ·have := hf (hE.n hk).1
  have sb := a3b this.size
  have := this.len
  by_cases hk3 : kind = 3
  ·have := (hE.h hk3).2.2.2.2; omega
  ·have := hE.t (by have := hE.k; omega); omega
def OkA (a : Ab) : Prop := ∀ j, a.kn j = true → a1I (a.fs j)
theorem OkA.step {a : Ab} (h : OkA a) {x : D} (hx : c2f a x = 0) : OkA (a2a a x) := by
 unfold a2a b6Z
 cases hk : kX x == 1 with
 | true =>
  have hE := a2E hx
  have hf := c2e (hE.d (by simpa using hk)).2
  intro j hj
  simp only [f22, upA] at hj ⊢
  by_cases e : j = (sX x).toNat
  ·simp only [if_pos e]; exact hf
  ·simp only [if_neg e] at hj ⊢; exact h j hj
 | false => exact h
theorem OkA.start : OkA Ab.start := fun j hj => by simp [Ab.start] at hj
section
variable {es : List D}
end
end Go.Proofs.Ytfogaejiehebeaa

namespace Go.Proofs.Ytfogaejiehebeaa
open Go Go.AM
set_option maxRecDepth 100000
set_option maxHeartbeats 4000000
set_option linter.unusedVariables false
variable {N : Nat}
section
variable {ps : List D}
end
theorem c2i (n i : Int) : 0 ≤ (bt n i).toI ∧ (bt n i).toI ≤ 255 := by
 unfold bt D.toI
 simp only [IntKind.wrap_u8]
 omega
theorem a0H.append {a b : List D} (h1 : a0H a) (h2 : a0H b) : a0H (a ++ b) := fun x hx => by
 rcases List.mem_append.1 hx with h | h
 ·exact h1 x h
 ·exact h2 x h
theorem a0H.cons {x : D} {b : List D} (h1 : 0 ≤ x.toI ∧ x.toI ≤ 255) (h2 : a0H b) : a0H (x :: b) := fun y hy => by
 rcases f3d.1 hy with rfl | h
 ·exact h1
 ·exact h2 y h
theorem a0H.nil : a0H [] := fun x hx => by simp at hx
theorem e8g (n : Int) (big : Bool) : a0H (nb4 n big) := by
 cases big <;> exact .cons (c2i _ _) (.cons (c2i _ _) (.cons (c2i _ _) (.cons (c2i _ _) .nil)))
theorem e8h (n : Int) (big : Bool) : a0H (nb2 n big) := by
 cases big <;> exact .cons (c2i _ _) (.cons (c2i _ _) .nil)
section
variable {es : List D}
end
end Go.Proofs.Ytfogaejiehebeaa

namespace Go.Proofs.Ytfogaejiehebeaa
open Go Go.AM
set_option maxRecDepth 100000
set_option maxHeartbeats 4000000
set_option linter.unusedVariables false
theorem e2S : a0f Try.prog 24 = [.sl 41] := by kernel_rfl
theorem e2T : a0f Try.prog 41 = [.int .i64, .int .i64, .int .i64, .sl 44, .sl 5] := by kernel_rfl
theorem e2U : a0f Try.prog 44 = [.bool, .int .i64, .sl 61] := by kernel_rfl
theorem e2V : a0f Try.prog 61 = [.int .i64, .int .i64, .int .i64] := by kernel_rfl
theorem e2W : a0f Try.prog 5 = [.int .u8] := by kernel_rfl
def c7K (i : Int) : Prop := -9223372036854775808 ≤ i ∧ i ≤ 9223372036854775807
def f2o (f : D) : Prop := ∃ a b c, f = .a [.i a, .i b, .i c] ∧ c7K a ∧ c7K b ∧ c7K c
def f0W (d : D) : Prop := ∃ big g nl fs, d = .a [.b big, .i g, .l nl fs] ∧ c7K g ∧ (nl = true → fs = []) ∧ fs.length ≤ maxLen ∧ ∀ f ∈ fs, f2o f
def e8i (x : D) : Prop := ∃ n, x = .i n ∧ 0 ≤ n ∧ n ≤ 255
def c62 (x : D) : Prop := ∃ kind slot off dn ds bn data, x = .a [.i kind, .i slot, .i off, .l dn ds, .l bn data] ∧ c7K kind ∧ c7K slot ∧ c7K off ∧ (dn = true → ds = []) ∧ (bn = true → data = []) ∧ ds.length ≤ maxLen ∧ data.length ≤ maxLen ∧ (∀ d ∈ ds, f0W d) ∧ ∀ y ∈ data, e8i y
theorem d2L {i : Int} (h : (Lit.int .i64 i).wf = true) : c7K i := by
 simp only [Lit.wf, f20, decide_eq_true_eq] at h
 exact h
theorem d8a {m : Nat} {x : D} (h : b73 Try.prog (TyK Try.prog (m + 1)) 5 x) : e8i x := by
 unfold b73 at h
 have : a0g Try.prog 5 = false := by kernel_rfl
 rw [if_neg (by rw [this]; simp), e2W] at h
 obtain ⟨k, hk, h⟩ := h
 simp only [List.cons.injEq, and_true] at hk
 subst hk
 obtain ⟨i, rfl, hl⟩ := h
 simp only [Lit.wf, f20, decide_eq_true_eq] at hl
 exact ⟨i, rfl, hl⟩
theorem e2X {m : Nat} {x : D} (h : b73 Try.prog (TyK Try.prog (m + 1)) 61 x) : f2o x := by
 unfold b73 at h
 have : a0g Try.prog 61 = true := by kernel_rfl
 rw [if_pos this, e2V] at h
 obtain ⟨cs, rfl, hc⟩ := h
 obtain ⟨_, _, rfl, h0, hc⟩ := a0O hc
 obtain ⟨_, _, rfl, h1, hc⟩ := a0O hc
 obtain ⟨_, _, rfl, h2, hc⟩ := a0O hc
 obtain rfl := a5h hc
 obtain ⟨a, rfl, ha⟩ := a4R h0
 obtain ⟨b, rfl, hb⟩ := a4R h1
 obtain ⟨c, rfl, hc9⟩ := a4R h2
 exact ⟨a, b, c, rfl, d2L ha, d2L hb, d2L hc9⟩
theorem e2Y {m : Nat} {x : D} (h : b73 Try.prog (TyK Try.prog (m + 2)) 44 x) : f0W x := by
 unfold b73 at h
 have : a0g Try.prog 44 = true := by kernel_rfl
 rw [if_pos this, e2U] at h
 obtain ⟨cs, rfl, hc⟩ := h
 obtain ⟨_, _, rfl, h0, hc⟩ := a0O hc
 obtain ⟨_, _, rfl, h1, hc⟩ := a0O hc
 obtain ⟨_, _, rfl, h2, hc⟩ := a0O hc
 obtain rfl := a5h hc
 obtain ⟨b, rfl⟩ := c8S h0
 obtain ⟨g, rfl, hg⟩ := a4R h1
 obtain ⟨nl, fs, rfl, n1, n2, n3⟩ := d6a h2
 exact ⟨b, g, nl, fs, rfl, d2L hg, n1, n2, fun f hf => e2X (n3 f hf)⟩
theorem e2Z {m : Nat} {x : D} (h : b73 Try.prog (TyK Try.prog (m + 3)) 41 x) : c62 x := by
 unfold b73 at h
 have : a0g Try.prog 41 = true := by kernel_rfl
 rw [if_pos this, e2T] at h
 obtain ⟨cs, rfl, hc⟩ := h
 obtain ⟨_, _, rfl, h0, hc⟩ := a0O hc
 obtain ⟨_, _, rfl, h1, hc⟩ := a0O hc
 obtain ⟨_, _, rfl, h2, hc⟩ := a0O hc
 obtain ⟨_, _, rfl, h3, hc⟩ := a0O hc
 obtain ⟨_, _, rfl, h4, hc⟩ := a0O hc
 obtain rfl := a5h hc
 obtain ⟨a, rfl, ha⟩ := a4R h0
 obtain ⟨b, rfl, hb⟩ := a4R h1
 obtain ⟨c, rfl, hc9⟩ := a4R h2
 obtain ⟨dn, ds, rfl, n1, n2, n3⟩ := d6a h3
 obtain ⟨bn, data, rfl, m1, m2, m3⟩ := d6a h4
 exact ⟨a, b, c, dn, ds, bn, data, rfl, d2L ha, d2L hb, d2L hc9, n1, m1, n2, m2, fun d hd => e2Y (n3 d hd), fun y hy => d8a (m3 y hy)⟩
theorem c62.entD {x : D} (h : c62 x) : a3x x := by
 obtain ⟨a, b, c, dn, ds, bn, data, rfl, _, _, _, n1, m1, n2, m2, n3, m3⟩ := h
 refine ⟨n2, m2, fun d hd => ?_, fun y hy => ?_⟩
 ·obtain ⟨big, g, nl, fs, rfl, _, _, hl, _⟩ := n3 d hd
  exact hl
 ·obtain ⟨n, rfl, h0, h1⟩ := m3 y hy
  exact ⟨h0, h1⟩
theorem f1R {ds : List D} (h : b2k Try.prog 6 24 ds) : ∃ nl es, ds = [.l nl es] ∧ (nl = true → es = []) ∧ es.length ≤ maxLen ∧ ∀ x ∈ es, c62 x := by
 unfold b2k at h
 rw [e2S] at h
 obtain ⟨_, _, rfl, h0, h⟩ := a0O h
 obtain rfl := a5h h
 obtain ⟨nl, es, rfl, h1, h2, h3⟩ := d6a (m := 5) h0
 exact ⟨nl, es, rfl, h1, h2, fun x hx => e2Z (h3 x hx)⟩
theorem e20 : a0f Try.prog 3 = [.int .i64] := by kernel_rfl
theorem f2P {ds : List D} (h : b2k Try.prog 6 3 ds) : ∃ n, ds = [.i n] ∧ c7K n := by
 unfold b2k at h
 rw [e20] at h
 obtain ⟨_, _, rfl, h0, h⟩ := a0O h
 obtain rfl := a5h h
 obtain ⟨n, rfl, hn⟩ := a4R (m := 5) h0
 exact ⟨n, rfl, d2L hn⟩
end Go.Proofs.Ytfogaejiehebeaa

namespace Go.Proofs.Ytfogaejiehebeaa
open Go Go.AM
set_option maxRecDepth 100000
set_option maxHeartbeats 4000000
set_option linter.unusedVariables false
variable {N : Nat}
def timesD (a : Ab) (es : List D) : List D := (d2J a es).map .i
theorem a6q {a : Ab} {x : D} {r : List D} : timesD a (x :: r) = .i (c60 a x) :: timesD (a2a a x) r := rfl
def d8b (a : Ab) (x d : D) : Prop := (kX x = 1 → d.items = []) ∧ (kX x ≠ 1 → ∃ nl, d.items = [.a [.b (a.bg (sX x).toNat), .i (a.gl (sX x).toNat), .l nl (a.fs (sX x).toNat)]])
def PlL : Ab → List D → List D → Prop
 | _, [], [] => True
 | a, x :: r, d :: ds => d8b a x d ∧ PlL (a2a a x) r ds
 | _, _, _ => False
theorem PlL.len : ∀ {es ds : List D} {a : Ab}, PlL a es ds → ds.length = es.length
 | [], [], _, _ => rfl
 | x :: r, d :: ds, a, h => by simp [PlL.len h.2]
 | [], _ :: _, _, h => h.elim
 | _ :: _, [], _, h => h.elim
section
variable {es : List D}
theorem c2j (hN : maxLen < N) (hes : ∀ x ∈ es, a3x x) (hl : es.length ≤ 50000) : ∀ (m : Nat) (i : Int) (p s : D) (a : Ab) (b b1 : Bool) (acc acc1 : List D), 0 ≤ i → i ≤ es.length → (es.length - i).toNat < m → Wk p s a i → a3c a (es.drop i.toNat) = 0 → (acc.length : Int) = i → (acc1.length : Int) = i →
  ∃ b' b1' ds, a7L N es es.length m i s b1 acc1 b acc (fun p => some p) = some (b1', acc1 ++ ds, b', acc ++ timesD a (es.drop i.toNat)) ∧ PlL a (es.drop i.toNat) ds := by
 intro m
 induction m with
 | zero => intro i p s a b b1 acc acc1 _ _ h; omega
 | succ m ih =>
  intro i p s a b b1 acc acc1 h0 h1 hm hw he ha ha1
  unfold a7L b0P
  by_cases hi : i < es.length
  ·have hx : a3x _ := hes _ (a0S (fs := es) h0 hi)
   rw [a2p (.i 0) h0 hi] at he ⊢
   obtain ⟨e1, e2⟩ := a7U he
   obtain ⟨p', s', q1, q2, hw'⟩ := b60 (N := N) hN hw hx h0 (by omega) e1
   have hE := a2E e1
   have r1 : decide ((acc.length + 1) * 8 ≤ a1j) = true := decide_eq_true (by unfold a1j; omega)
   have r2 : decide (acc.length + 1 ≤ a0i) = true := decide_eq_true (by unfold a0i; omega)
   have r3 : decide ((acc1.length + 1) * 24 ≤ a1j) = true := decide_eq_true (by unfold a1j; omega)
   have r4 : decide (acc1.length + 1 ≤ a0i) = true := decide_eq_true (by unfold a0i; omega)
   have h29 : ∃ y, a7K N (kX (es.getD i.toNat (.i 0)) != 1) (sX (es.getD i.toNat (.i 0))) s' = some y ∧ ∃ d, (y = .inr () ∧ d = .l true [] ∨ ∃ l, y = .inl l ∧ d = .l false l) ∧ d8b a (es.getD i.toNat (.i 0)) d := by
    unfold a7K a5B
    by_cases hk : kX (es.getD i.toNat (.i 0)) = 1
    ·rw [hk]
     exact ⟨.inr (), rfl, .l true [], .inl ⟨rfl, rfl⟩, fun _ => rfl, fun h => absurd hk h⟩
    ·have hk' : (kX (es.getD i.toNat (.i 0)) != 1) = true := by simpa using hk
     rw [hk', hE.s.1]
     have hkn : (a2a a (es.getD i.toNat (.i 0))).kn (sX (es.getD i.toNat (.i 0))).toNat = true := by
      unfold a2a b6Z
      have : (kX (es.getD i.toNat (.i 0)) == 1) = false := by simpa using hk
      rw [this]; exact (hE.n hk).1
     obtain ⟨d1, d2, d3⟩ := hw'.ss.df _ hE.s.2 hkn
     have hb : (a2a a (es.getD i.toNat (.i 0))).bg = a.bg ∧ (a2a a (es.getD i.toNat (.i 0))).gl = a.gl ∧ (a2a a (es.getD i.toNat (.i 0))).fs = a.fs := by
      unfold a2a b6Z
      have : (kX (es.getD i.toNat (.i 0)) == 1) = false := by simpa using hk
      rw [this]; exact ⟨rfl, rfl, rfl⟩
     rw [hb.1] at d1
     rw [hb.2.1] at d2
     rw [hb.2.2] at d3
     refine ⟨.inl [.a [.b (s'.cell (16 + ((sX (es.getD i.toNat (.i 0))).toNat * 3))).toB, .i (s'.cell (17 + ((sX (es.getD i.toNat (.i 0))).toNat * 3))).toI, .l (s'.cell (18 + ((sX (es.getD i.toNat (.i 0))).toNat * 3))).isNil (s'.cell (18 + ((sX (es.getD i.toNat (.i 0))).toNat * 3))).items]], rfl, _, .inr ⟨_, rfl, rfl⟩, fun h => absurd h hk, fun _ => ⟨(s'.cell (18 + ((sX (es.getD i.toNat (.i 0))).toNat * 3))).isNil, ?_⟩⟩
     rw [d1, d2, d3]; rfl
   obtain ⟨y, y29, d, hd, hdok⟩ := h29
   rw [decide_eq_true hi, a0P h0 hi, q2]
   simp only [f22, a0s, f27, getD_some, r1, r2, r3, r4, Bool.and_self, y29, a0Y (x := i + 1) (by omega) (by omega)]
   obtain ⟨b', b1', ds, z, zp⟩ := ih (i + 1) p' s' _ false false (acc ++ [.i (c60 a (es.getD i.toNat (.i 0)))]) (acc1 ++ [d]) (by omega) (by omega) (by omega) hw' e2 (by simp; omega) (by simp; omega)
   refine ⟨b', b1', d :: ds, ?_, hdok, zp⟩
   rw [List.append_assoc, List.append_assoc] at z
   rw [a6q]
   rcases hd with ⟨rfl, rfl⟩ | ⟨l, rfl, rfl⟩
   ·exact z
   ·exact z
  ·have : i = es.length := by omega
   subst this
   rw [decide_eq_false hi, a2t (by omega)]
   exact ⟨b, b1, [], by simp [timesD, d2J], trivial⟩
theorem c63 (hN : maxLen < N) (hes : ∀ x ∈ es, a3x x) (h : fileE es = 0) : ∃ b b1 ds, c16 N es = some (b1, ds, b, timesD Ab.start es) ∧ PlL Ab.start es ds := by
 have hm : maxLen = 9223372036854775807 := rfl
 obtain ⟨hl, he⟩ := b0X h
 obtain ⟨b, b1, ds, z, zp⟩ := c2j hN hes hl N 0 (a9T N) b3b Ab.start true true [] [] (by omega) (by omega) (by omega) c2g (by simpa using he) (by simp) (by simp)
 have y1 : b0Q N es es.length 0 b3b true [] true [] = some (b1, ds, b, timesD Ab.start es) := by unfold b0Q; simpa using z
 refine ⟨b, b1, ds, ?_, by simpa using zp⟩
 have k2 : c16 N es = bnd (b0Q N es es.length 0 b3b true [] true []) fun y1 => bif y1.isSome then some (y1.getD default) else none := by unfold c16 c6R; rfl
 rw [k2, y1]; rfl
end
end Go.Proofs.Ytfogaejiehebeaa

namespace Go.Proofs.Ytfogaejiehebeaa
open Go Go.AM
set_option maxRecDepth 100000
set_option maxHeartbeats 4000000
set_option linter.unusedVariables false
variable {N : Nat}
def b33 (d : D) : D := .a [.b (d.cell 0).toB, .i (d.cell 1).toI, .l false (d.cell 2).items]
structure EqE (x y : D) : Prop where
 k : kX x = kX y
 s : sX x = sX y
 o : oX x = oX y
 d : (dX x).map b33 = (dX y).map b33
 b : bX x = bX y
theorem EqE.symm {x y : D} (h : EqE x y) : EqE y x := ⟨h.k.symm, h.s.symm, h.o.symm, h.d.symm, h.b.symm⟩
theorem b61 {d d' : D} (h : b33 d = b33 d') : (d.cell 0).toB = (d'.cell 0).toB ∧ (d.cell 1).toI = (d'.cell 1).toI ∧ (d.cell 2).items = (d'.cell 2).items := by
 unfold b33 at h
 simp only [D.a.injEq, List.cons.injEq, D.b.injEq, D.i.injEq, D.l.injEq, and_true, true_and] at h
 exact h
theorem d2M {ds ds' : List D} (h : ds.map b33 = ds'.map b33) : ds.length = ds'.length ∧ ((ds.getD 0 (.i 0)).cell 0).toB = ((ds'.getD 0 (.i 0)).cell 0).toB ∧ ((ds.getD 0 (.i 0)).cell 1).toI = ((ds'.getD 0 (.i 0)).cell 1).toI ∧ ((ds.getD 0 (.i 0)).cell 2).items = ((ds'.getD 0 (.i 0)).cell 2).items := by
 have hl : ds.length = ds'.length := by have := congrArg List.length h; simpa using this
 refine ⟨hl, ?_⟩
 match ds, ds', h, hl with
 | [], [], _, _ => exact ⟨rfl, rfl, rfl⟩
 | d :: _, d' :: _, h, _ =>
  simp only [List.map_cons, List.cons.injEq] at h
  exact b61 h.1
 | [], _ :: _, _, hl => simp at hl
 | _ :: _, [], _, hl => simp at hl
theorem EqE.err {x y : D} (h : EqE x y) (a : Ab) : c2f a x = c2f a y := by
 obtain ⟨l, d0, d1, d2⟩ := d2M h.d
 unfold c2f e2P c38
 rw [h.k, h.s, h.o, h.b, l, d1, d2]
theorem EqE.time {x y : D} (h : EqE x y) (a : Ab) : c60 a x = c60 a y := by
 unfold c60
 rw [h.k, h.s, h.o, h.b]
theorem EqE.step {x y : D} (h : EqE x y) (a : Ab) : a2a a x = a2a a y := by
 obtain ⟨l, d0, d1, d2⟩ := d2M h.d
 unfold a2a b6Z
 rw [h.k, h.s, h.o, h.b, d0, d1, d2]
theorem All2.errs {xs ys : List D} (h : All2 EqE xs ys) (a : Ab) : a3c a xs = a3c a ys := by
 induction xs generalizing ys a with
 | nil => cases ys with
  | nil => rfl
  | cons => exact h.elim
 | cons x xs ih => cases ys with
  | nil => exact h.elim
  | cons y ys => simp only [a3c]; rw [h.1.err, h.1.step, ih h.2]
theorem All2.timesD {xs ys : List D} (h : All2 EqE xs ys) (a : Ab) : Proofs.Ytfogaejiehebeaa.timesD a xs = Proofs.Ytfogaejiehebeaa.timesD a ys := by
 induction xs generalizing ys a with
 | nil => cases ys with
  | nil => rfl
  | cons => exact h.elim
 | cons x xs ih => cases ys with
  | nil => exact h.elim
  | cons y ys => rw [a6q, a6q, h.1.time, h.1.step, ih h.2]
theorem All2.fileE {xs ys : List D} (h : All2 EqE xs ys) : Proofs.Ytfogaejiehebeaa.fileE xs = Proofs.Ytfogaejiehebeaa.fileE ys := by
 unfold Proofs.Ytfogaejiehebeaa.fileE
 rw [AM.All2.length h, All2.errs h]
theorem a9F : ∀ {xs ys : List D}, xs.length = ys.length → a7T (fun _ _ => true) xs ys = true
 | [], [], _ => rfl
 | x :: r, y :: s, h => by simp only [a7T, Bool.true_and]; exact a9F (by simpa using h)
 | [], _ :: _, h => by simp at h
 | _ :: _, [], h => by simp at h
theorem b9V {R : D → D → Prop} {xs ys : List D} (h : All2 R xs ys) {w : Int} (hw : inB w xs.length = true) : R (xs.getD w.toNat (.i 0)) (ys.getD w.toNat (.i 0)) := by
 unfold inB at hw
 simp at hw
 have hl := AM.All2.length h
 have h1 : w.toNat < xs.length := by omega
 rw [f26, f26, f3c h1, f3c (by omega : w.toNat < ys.length)]
 exact h.get2 (f3c h1) (f3c _)
theorem d8c {R : D → D → Prop} {xs ys : List D} (hr : All2 R xs ys) {S : Int → (Int → Option (Sum Unit Unit)) → Option (Sum Unit Unit)} {L : Nat → Int → Option (Sum Unit Unit)} (hL : ∀ m a, L (m + 1) a = S a (L m)) (hlen : xs.length ≤ maxLen)
  (hend : ∀ kr, S xs.length kr = some (.inr ()))
  (hstep : ∀ (w : Int) (kr : Int → Option (Sum Unit Unit)), decide (w < xs.length) = true → inB w xs.length = true → inB w ys.length = true → xs.getD w.toNat (.i 0) ∈ xs → R (xs.getD w.toNat (.i 0)) (ys.getD w.toNat (.i 0)) → S w kr = kr (IntKind.wrap .i64 (w + 1)))
  (hN : maxLen < N) : L N 0 = some (.inr ()) := by
 have := d2x (xs := xs) (ys := ys) (fun _ _ => true) hL hlen (AM.All2.length hr) hend (fun w kr h1 h2 h3 => by rw [hstep w kr h1 h2 h3 (d2C h2) (b9V hr h2)]; rfl) hN
 rw [this, a9F (AM.All2.length hr)]
 rfl
theorem d8d {xs ys : List D} (h : xs.map b33 = ys.map b33) : All2 (fun d d' => b33 d = b33 d') xs ys := by
 have hl : xs.length = ys.length := by have := congrArg List.length h; simpa using this
 refine .of_get hl fun j x y hx hy => ?_
 have := congrArg (fun l => l[j]?) h
 simp only [List.getElem?_map, hx, hy, f3f, f2Y] at this
 exact this
section
variable {xs ys : List D}
theorem d2N (hN : maxLen < N) (h : xs.map b33 = ys.map b33) (hl : xs.length ≤ maxLen) (hf : ∀ x ∈ xs, (x.cell 2).items.length ≤ maxLen) : d2O N xs ys = some true := by
 have hle : xs.length = ys.length := by have := congrArg List.length h; simpa using this
 have k : c4c N ys xs xs.length 0 = some (.inr ()) := by
  refine d8c (d8d h) (S := fun w kr => a5F N ys xs xs.length w kr _ _) (L := fun m w => b0Y N ys xs xs.length m w _ _) (fun m w => rfl) hl (fun kr => by simp [a5F]) (fun w kr h1 h2 h3 h4 h5 => ?_) hN
  obtain ⟨e0, e1, e2⟩ := b61 h5
  unfold a5F
  rw [h1, h2, h3, ← e0, ← e1, ← e2, d2G hN (hf _ h4)]
  simp [a0s]
 unfold d2O c64
 rw [← hle, b6X, k]; rfl
theorem d8e (hN : maxLen < N) {x y : D} (h : EqE x y) (he : a3x x) : c2k N (kX x) (sX x) (oX x) (dX x) (bX x) (kX y) (sX y) (oX y) (dX y) (bX y) = some true := by
 unfold c2k d2P b62 b3e
 rw [← h.k, ← h.s, ← h.o, ← h.b, d2N hN h.d he.d he.f, d75 hN he.b]
 simp [a0s]
end
end Go.Proofs.Ytfogaejiehebeaa

namespace Go.Proofs.Ytfogaejiehebeaa
open Go Go.AM
set_option maxRecDepth 100000
set_option maxHeartbeats 4000000
set_option linter.unusedVariables false
variable {N : Nat}
section
variable {l es : List D}
end
end Go.Proofs.Ytfogaejiehebeaa

namespace Go.Proofs.Ytfogaejiehebeaa
open Go Go.AM
set_option maxRecDepth 100000
set_option maxHeartbeats 4000000
set_option linter.unusedVariables false
variable {N : Nat}
theorem PlL.at_ {a : Ab} {es ds : List D} {x : D} (h : PlL a (x :: es) ds) : ∃ d r, ds = d :: r ∧ d8b a x d ∧ PlL (a2a a x) es r := by
 cases ds with
 | nil => exact h.elim
 | cons d r => exact ⟨d, r, rfl, h.1, h.2⟩
section
variable {es : List D}
end
end Go.Proofs.Ytfogaejiehebeaa

namespace Go.Proofs.Ytfogaejiehebeaa
open Go Go.AM
set_option maxRecDepth 100000
set_option maxHeartbeats 4000000
set_option linter.unusedVariables false
variable {N : Nat}
def a5O (fs : List D) : Prop := ∀ f ∈ fs, 0 ≤ fT f ∧ fT f ≤ 3 ∧ 1 ≤ fS f ∧ fS f ≤ 255 ∧ (fT f ≤ 1 → fS f = 1 ∨ fS f = 2 ∨ fS f = 4)
theorem d8f {g : Int} {fs : List D} (h : c7J g fs = 0) : a5O fs := by
 unfold c7J at h
 cases h1 : inI g 0 65535 with
 | false => rw [h1] at h; exact absurd (show (9 : Int) = 0 from h) (by decide)
 | true =>
  rw [h1] at h
  cases h2 : decide ((fs.length : Int) > 30) with
  | true => rw [h2] at h; exact absurd (show (3 : Int) = 0 from h) (by decide)
  | false =>
   rw [h2] at h
   simp only [Bool.not_true, f23] at h
   intro f hf
   obtain ⟨i, hi, rfl⟩ := List.getElem_of_mem hf
   have := a4f h i hi
   rw [Int.zero_add] at this
   unfold c7I at this
   have hg : fs.getD ((i : Int)).toNat (.i 0) = fs[i] := by
    rw [f26, Int.toNat_natCast, f3c hi]; rfl
   rw [hg] at this
   cases h0 : inI (fN fs[i]) 0 255 with
   | false => rw [h0] at this; exact absurd (show (9 : Int) = 0 from by simpa using this) (by decide)
   | true =>
   cases h3 : inI (fS fs[i]) 1 255 with
   | false => rw [h0, h3] at this; exact absurd (show (9 : Int) = 0 from by simpa using this) (by decide)
   | true =>
   cases h4 : inI (fT fs[i]) 0 3 with
   | false => rw [h0, h3, h4] at this; exact absurd (show (7 : Int) = 0 from by simpa using this) (by decide)
   | true =>
   rw [h0, h3, h4] at this
   simp only [Bool.not_true, f23, Bool.or_self] at this
   cases h5 : (decide (fT fs[i] ≤ 1) && (fS fs[i] != 1) && (fS fs[i] != 2) && (fS fs[i] != 4)) with
   | true => rw [h5] at this; exact absurd (show (2 : Int) = 0 from by simpa using this) (by decide)
   | false =>
   unfold inI at h3 h4
   simp only [f20, decide_eq_true_eq] at h3 h4
   refine ⟨h4.1, h4.2, h3.1, h3.2, fun ht => ?_⟩
   rw [decide_eq_true ht] at h5
   simp only [Bool.true_and] at h5
   by_cases a1 : fS fs[i] = 1
   ·exact .inl a1
   by_cases a2 : fS fs[i] = 2
   ·exact .inr (.inl a2)
   by_cases a3 : fS fs[i] = 4
   ·exact .inr (.inr a3)
   have : ∀ k : Int, fS fs[i] ≠ k → (fS fs[i] != k) = true := fun k hk => by simpa using hk
   rw [this 1 a1, this 2 a2, this 4 a3] at h5
   cases h5
def a2F (s : Int) (sg : Bool) : Int := bif sg then (bif s == 1 then 127 else bif s == 2 then 32767 else 2147483647) else (bif s == 1 then 255 else bif s == 2 then 65535 else 4294967295)
def pwV (s : Int) : Int := bif s == 1 then 256 else bif s == 2 then 65536 else 4294967296
abbrev Sz (s : Int) : Prop := s = 1 ∨ s = 2 ∨ s = 4
theorem b63 {s : Int} (h : Sz s) (sg : Bool) : a7b N s sg = some (a2F s sg) := by
 rcases h with rfl | rfl | rfl <;> cases sg <;> kernel_rfl
theorem d8g {s : Int} (h : Sz s) (t : Int) : c17 N s t = some (a2F s (t == 1)) := by
 unfold c17 c6S
 cases t == 1 <;> rcases h with rfl | rfl | rfl <;> kernel_rfl
def e22 (l : List UInt8) : List UInt8 := bif decide (Lib.indexByte l 0 ≥ 0) then l.take (Lib.indexByte l 0).toNat else l
theorem e8j (l : List UInt8) (c : UInt8) : Lib.indexByte l c < (l.length : Int) ∨ l = [] := by
 induction l with
 | nil => exact .inr rfl
 | cons b l ih =>
  left
  have hg := Lib.indexByte_ge l c
  simp only [Lib.indexByte, List.length_cons]
  by_cases h1 : (b == c) = true
  ·rw [if_pos h1]; omega
  ·rw [if_neg h1]
   by_cases h2 : (Lib.indexByte l c == -1) = true
   ·rw [if_pos h2]; omega
   ·rw [if_neg h2]
    rcases ih with ih | rfl
    ·omega
    ·exact absurd (show (Lib.indexByte [] c == -1) = true from rfl) h2
theorem d8h {l : List UInt8} (hl : l.length ≤ maxLen) : ∃ r c, c6l N l = some (e22 l, r, c) := by
 have hm : maxLen = 9223372036854775807 := rfl
 have hv : c1S N l = Lib.indexByte l 0 := by
  unfold c1S c1R d0N c1Q
  cases h : (([0] : List UInt8) == l) with
  | true => rw [← eq_of_beq h]; rfl
  | false => rfl
 have hg := Lib.indexByte_ge l 0
 unfold c6l c6k d7b c6j e22
 simp only [a0s, hv]
 rcases e8j l 0 with hlt | rfl
 ·generalize Lib.indexByte l 0 = j at hg hlt ⊢
  by_cases hj : j ≥ 0
  ·rw [decide_eq_true hj, decide_eq_true (show j ≤ (l.length : Int) by omega), a0Y (x := j + 1) (by omega) (by omega), decide_eq_true (show 0 ≤ j + 1 by omega), decide_eq_true (show j + 1 ≤ (l.length : Int) by omega), decide_eq_true (Int.le_refl (l.length : Int))]
   exact ⟨_, _, rfl⟩
  ·rw [decide_eq_false hj]
   exact ⟨_, _, rfl⟩
 ·exact ⟨_, _, rfl⟩
def d5y (s t : Int) (b : List D) (big : Bool) : Int × List UInt8 × Bool :=
 bif t == 3 then (0, a9U b, false) else bif t == 2 then (0, e22 (a9U b), e22 (a9U b) == []) else
 bif b3K b big == a2F s (t == 1) then (0, [], true) else (bif (t == 1) && decide (b3K b big > a2F s true) then b3K b big - pwV s else b3K b big, [], false)
structure e8k (s t : Int) (b : List D) : Prop where
 t0 : 0 ≤ t
 t3 : t ≤ 3
 sz : t ≤ 1 → Sz s
 len : (b.length : Int) = s
 by_ : a0H b
 hl : b.length ≤ 255
theorem e8l {s n : Int} (h : Sz s) (h0 : 0 ≤ n) (h1 : n < 4294967296) (c : Bool) :
  (bif c then (bif decide (0 ≤ IntKind.wrap .i64 (8 * s)) then bnd (IntKind.wrap .i64 (1 * 2 ^ (min (IntKind.wrap .i64 (8 * s)).toNat 64))) fun y0 => some (IntKind.wrap .i64 (n - y0)) else none) else some n) = some (bif c then n - pwV s else n) := by
 have e : ∀ k, some (IntKind.wrap .i64 (n - k)) = some (n - k) ∨ ¬ (0 ≤ k ∧ k ≤ 4294967296) := fun k => by
  by_cases hk : 0 ≤ k ∧ k ≤ 4294967296
  ·left; rw [a0Y (by omega) (by omega)]
  ·exact .inr hk
 cases c with
 | false => rfl
 | true =>
  simp only [f22, a0s]
  rcases h with rfl | rfl | rfl
  ·have e1 : IntKind.wrap .i64 (8 * 1) = 8 := by decide
   have e2 : IntKind.wrap .i64 (1 * 2 ^ (min (8 : Int).toNat 64)) = 256 := by decide
   rw [e1, e2, a0Y (x := n - 256) (by omega) (by omega)]; rfl
  ·have e1 : IntKind.wrap .i64 (8 * 2) = 16 := by decide
   have e2 : IntKind.wrap .i64 (1 * 2 ^ (min (16 : Int).toNat 64)) = 65536 := by decide
   rw [e1, e2, a0Y (x := n - 65536) (by omega) (by omega)]; rfl
  ·have e1 : IntKind.wrap .i64 (8 * 4) = 32 := by decide
   have e2 : IntKind.wrap .i64 (1 * 2 ^ (min (32 : Int).toNat 64)) = 4294967296 := by decide
   rw [e1, e2, a0Y (x := n - 4294967296) (by omega) (by omega)]; rfl
theorem d8i (b : List D) : (a9U b).length = b.length := by unfold a9U; simp
theorem e0k {s : Int} {b : List D} (h : Sz s) (hl : (b.length : Int) = s) : b.length ≤ 4 := by rcases h with rfl | rfl | rfl <;> omega
theorem d8j (hN : maxLen < N) {s t at_ : Int} {data : List D} (big : Bool) (h0 : 0 ≤ at_) (h1 : at_ + s ≤ data.length) (hs0 : 0 ≤ s) (hd : data.length ≤ maxLen) (h : e8k s t ((data.take (at_ + s).toNat).drop at_.toNat)) :
  c6o N s t at_ data big = some (d5y s t ((data.take (at_ + s).toNat).drop at_.toNat) big) := by
 have hm : maxLen = 9223372036854775807 := rfl
 unfold c6o d1c
 rw [a0Y (x := at_ + s) (by omega) (by omega), decide_eq_true h0, decide_eq_true (show at_ ≤ at_ + s by omega), decide_eq_true h1]
 simp only [Bool.and_self, f22, a0s]
 generalize (data.take (at_ + s).toNat).drop at_.toNat = b at h ⊢
 have hb := h.hl
 have ht0 := h.t0
 have ht3 := h.t3
 unfold a4d a28 a4c a27 d5y
 by_cases h3 : t = 3
 ·subst h3; rfl
 ·have e3 : (t == 3) = false := by simpa using h3
  rw [e3]
  by_cases h2 : t = 2
  ·subst h2
   obtain ⟨r, c, q⟩ := d8h (N := N) (l := a9U b) (by rw [d8i]; omega)
   rw [q]; rfl
  ·have e2 : (t == 2) = false := by simpa using h2
   have hsz := h.sz (by omega)
   have hn := b44 h.by_ big (e0k hsz h.len)
   rw [e2, c37 hN h.by_ big (e0k hsz h.len), b63 hsz]
   simp only [f23, a0s, f27, getD_some, f22]
   generalize b3K b big = n at hn ⊢
   unfold a4b a26 b0u a5v b0v a5w
   cases hmi : (n == a2F s (t == 1)) with
   | true => rfl
   | false =>
    have k := e8l hsz hn.1 hn.2 ((t == 1) && decide (n > a2F s true))
    simp only [f23, a0s]
    have hc : (bif t == 1 then (bif (a7b N s true).isSome then some (decide (n > (a7b N s true).getD default)) else none) else some false) = some ((t == 1) && decide (n > a2F s true)) := by
     rw [b63 hsz]
     cases t == 1 <;> rfl
    rw [hc]
    simp only [f27, getD_some, f22]
    simp only [a0s] at k
    rw [k]
    rfl
def f0X (f : D) (a : Int) (data : List D) (big : Bool) : D :=
 .a [.i (fN f), .i (fT f), .i (d5y (fS f) (fT f) ((data.take (a + fS f).toNat).drop a.toNat) big).1, .s (d5y (fS f) (fT f) ((data.take (a + fS f).toNat).drop a.toNat) big).2.1, .b (d5y (fS f) (fT f) ((data.take (a + fS f).toNat).drop a.toNat) big).2.2]
def b9W (data : List D) (big : Bool) : Bool → Int → List D → List D
 | _, _, [] => []
 | t, a, f :: r => bif t && isT f then b9W data big false a r else f0X f a data big :: b9W data big t (a + fS f) r
def a1m : Bool → Int → List D → List D
 | _, _, [] => []
 | t, a, f :: r => bif t && isT f then a1m false a r else .a [.i (fN f), .i (fS f), .i (fT f), .i a] :: a1m t (a + fS f) r
theorem a5G : ∀ {fs : List D} {t : Bool} {a : Int}, (a1m t a fs).length ≤ fs.length
 | [], _, _ => Nat.le_refl _
 | f :: r, t, a => by
  simp only [a1m]
  cases t && isT f with
  | true => have := a5G (fs := r) (t := false) (a := a); simp only [f22, List.length_cons]; omega
  | false => have := a5G (fs := r) (t := t) (a := a + fS f); simp only [f23, List.length_cons]; omega
section
variable {fs : List D}
def f1S (short t : Bool) (T all : Int) (r : List D) : Prop := bif short then (bif t then T = tmL all r else T < all) else t = false
theorem c4d (hN : maxLen < N) (h : a1I fs) (ht : a5O fs) (short : Bool) : ∃ nl, c1K N fs (tmL 0 fs) short = some (nl, a1m short 0 fs) := by
 have hm : maxLen = 9223372036854775807 := rfl
 have hl := h.len
 have key := b28 (A := Int × Int × Int × Bool × LD) (X := Option (Bool × LD)) (S := fun x kr => a7k N short fs fs.length (tmL 0 fs) x.1 x.2.1 x.2.2.1 x.2.2.2.1 x.2.2.2.2 (fun a b c d e => kr (a, b, c, d, e)) (fun p => some p)) (L := fun m x => b0n N short fs fs.length (tmL 0 fs) m x.1 x.2.1 x.2.2.1 x.2.2.2.1 x.2.2.2.2 (fun p => some p)) (fun m x => rfl)
  (fun x r => ∀ t, f1S short t (tmL 0 fs) x.2.1 (fs.drop x.2.2.1.toNat) → ∃ nl, r = some (nl, x.2.2.2.2 ++ a1m t x.1 (fs.drop x.2.2.1.toNat)))
  (fun x => 0 ≤ x.2.2.1 ∧ x.2.2.1 ≤ fs.length ∧ 0 ≤ x.1 ∧ x.1 ≤ 255 * x.2.2.1 ∧ 0 ≤ x.2.1 ∧ x.2.1 ≤ 255 * x.2.2.1 ∧ (x.2.2.2.2.length : Int) ≤ x.2.2.1) (fun x => (fs.length - x.2.2.1).toNat) ?_ N (0, 0, 0, true, []) ⟨by decide, by show (0 : Int) ≤ _; omega, by decide, by decide, by decide, by decide, by decide⟩ (by simp; omega)
 ·obtain ⟨nl, k2⟩ := key short (by cases short <;> rfl)
  have k3 : c3F N short fs fs.length (tmL 0 fs) 0 0 0 true [] = some (nl, a1m short 0 fs) := by
   refine Eq.trans k2 ?_
   simp
  refine ⟨nl, ?_⟩
  unfold c1K c53
  rw [k3]; rfl
 ·rintro ⟨w1, all, w, b, l⟩ kr ⟨h0, h1, h2, h3, h4, h5, h6⟩ ih t hT
  simp only at h0 h1 h2 h3 h4 h5 h6 ih hT ⊢
  unfold a7k
  by_cases hw : w < fs.length
  ·have hf := ht _ (a0S h0 hw)
   rw [decide_eq_true hw, a0P h0 hw, a2p (.i 0) h0 hw]
   rw [a2p (.i 0) h0 hw] at hT
   have r1 : decide ((l.length + 1) * 32 ≤ a1j) = true := decide_eq_true (by unfold a1j; omega)
   have r2 : decide (l.length + 1 ≤ a0i) = true := decide_eq_true (by unfold a0i; omega)
   have e1 : ((fs.getD w.toNat (.i 0)).cell 1).toI = fS (fs.getD w.toNat (.i 0)) := rfl
   have w1' := a0Y (x := w + 1) (by omega) (by omega)
   simp only [f22, a0s, r1, r2, Bool.and_self, e1, w1', a0Y (x := all + fS (fs.getD w.toNat (.i 0))) (by omega) (by omega), a0Y (x := w1 + fS (fs.getD w.toNat (.i 0))) (by omega) (by omega), a1m]
   have hc : (bif short then all == tmL 0 fs else false) = (t && isT (fs.getD w.toNat (.i 0))) ∧ f1S short (t && !(isT (fs.getD w.toNat (.i 0)))) (tmL 0 fs) (all + fS (fs.getD w.toNat (.i 0))) (fs.drop (w + 1).toNat) := by
    unfold f1S at hT ⊢
    cases short with
    | false => simp only [f23] at hT ⊢; subst hT; exact ⟨rfl, rfl⟩
    | true =>
     simp only [f22] at hT ⊢
     cases t with
     | false =>
      simp only [f23, Bool.false_and] at hT ⊢
      refine ⟨?_, by omega⟩
      simp; omega
     | true =>
      simp only [f22, Bool.true_and, tmL] at hT ⊢
      cases hi : isT (fs.getD w.toNat (.i 0)) with
      | true =>
       rw [hi] at hT
       simp only [f22, Bool.not_true, f23] at hT ⊢
       exact ⟨by simp; omega, by omega⟩
      | false =>
       rw [hi] at hT
       simp only [f23, Bool.not_false, f22] at hT ⊢
       refine ⟨?_, hT⟩
       have := b29 (fs := fs.drop (w + 1).toNat) (a := all + fS (fs.getD w.toNat (.i 0))) (by omega) (fun x hx => h.size x (List.mem_of_mem_drop hx))
       simp; omega
   rw [hc.1]
   cases hti : (t && isT (fs.getD w.toNat (.i 0))) with
   | true =>
    simp only [f22]
    have ht2 : (t && !(isT (fs.getD w.toNat (.i 0)))) = false := (by decide : ∀ x y : Bool, (x && y) = true → (x && !y) = false) _ _ hti
    exact ih (w1, all + fS (fs.getD w.toNat (.i 0)), w + 1, b, l) ⟨by simp only; omega, by simp only; omega, by simp only; omega, by simp only; omega, by simp only; omega, by simp only; omega, by simp only; omega⟩ (by simp only; omega) false (ht2 ▸ hc.2)
   | false =>
    simp only [f23]
    have ht2 : (t && !(isT (fs.getD w.toNat (.i 0)))) = t := (by decide : ∀ x y : Bool, (x && y) = false → (x && !y) = x) _ _ hti
    obtain ⟨nl, e⟩ := ih (w1 + fS (fs.getD w.toNat (.i 0)), all + fS (fs.getD w.toNat (.i 0)), w + 1, false, l ++ [.a [.i (fN (fs.getD w.toNat (.i 0))), .i (fS (fs.getD w.toNat (.i 0))), .i (fT (fs.getD w.toNat (.i 0))), .i w1]]) ⟨by simp only; omega, by simp only; omega, by simp only; omega, by simp only; omega, by simp only; omega, by simp only; omega, by simp; omega⟩ (by simp only; omega) t (ht2 ▸ hc.2)
    exact ⟨nl, by rw [← List.append_cons] at e; exact e⟩
  ·have : w = fs.length := by omega
   subst this
   rw [decide_eq_false hw, a2t (by omega)]
   exact ⟨b, by simp [a1m]⟩
end
def f0Y (n : Int) : List D → Prop
 | [] => True
 | f :: r => (0 ≤ (f.cell 3).toI ∧ (f.cell 3).toI + fS f ≤ n) ∧ f0Y n r
theorem a7V : ∀ {fs : List D} {t : Bool} {a n : Int}, a5O fs → 0 ≤ a → a + szL (flds t fs) ≤ n → f0Y n (a1m t a fs) ∧ a5O (a1m t a fs)
 | [], _, _, _, _, _, _ => ⟨trivial, fun f hf => by simp [a1m] at hf⟩
 | f :: r, t, a, n, ht, h0, h1 => by
  have h2 := ht f (by simp)
  have h3 : a5O r := fun x hx => ht x (by simp [hx])
  simp only [flds, a1m] at h1 ⊢
  cases hh : t && isT f with
  | true =>
   rw [hh] at h1
   simp only [f22] at h1 ⊢
   exact a7V h3 h0 h1
  | false =>
   rw [hh] at h1
   simp only [f23, szL] at h1 ⊢
   have e : fS (.a [.i (fN f), .i (fS f), .i (fT f)]) = fS f := rfl
   rw [e] at h1
   obtain ⟨q1, q2⟩ := a7V (t := t) (a := a + fS f) (n := n) h3 (by omega) (by omega)
   have hb := a3b (fs := flds t r) (fun x hx => (b6V (fun y hy => by have := h3 y hy; omega)).2 x hx)
   refine ⟨⟨⟨h0, by show a + fS f ≤ n; omega⟩, q1⟩, fun x hx => ?_⟩
   rcases f3d.1 hx with rfl | hx
   ·exact h2
   ·exact q2 x hx
section
variable {fs data : List D} {big : Bool}
theorem d2Q {f : D} {a : Int} (hf : 0 ≤ fT f ∧ fT f ≤ 3 ∧ 1 ≤ fS f ∧ fS f ≤ 255 ∧ (fT f ≤ 1 → fS f = 1 ∨ fS f = 2 ∨ fS f = 4)) (h0 : 0 ≤ a) (h1 : a + fS f ≤ data.length) (hb : a0H data) : e8k (fS f) (fT f) ((data.take (a + fS f).toNat).drop a.toNat) := by
 have hl : ((data.take (a + fS f).toNat).drop a.toNat).length = (fS f).toNat := by simp; omega
 exact ⟨hf.1, hf.2.1, hf.2.2.2.2, by omega, fun x hx => hb x (List.mem_of_mem_take (List.mem_of_mem_drop hx)), by omega⟩
theorem b64 : ∀ {l : List D} {n : Int} {i : Nat}, f0Y n l → i < l.length → 0 ≤ ((l.getD i (.i 0)).cell 3).toI ∧ ((l.getD i (.i 0)).cell 3).toI + fS (l.getD i (.i 0)) ≤ n
 | f :: r, n, 0, h, _ => h.1
 | f :: r, n, i + 1, h, hi => by
  have := b64 (l := r) (i := i) h.2 (by simpa using hi)
  simpa using this
 | [], _, _, _, hi => by simp at hi
def c4e (data : List D) (big : Bool) (f : D) : D := f0X f (f.cell 3).toI data big
theorem a40 : ∀ {fs : List D} {t : Bool} {a : Int}, (a1m t a fs).map (c4e data big) = b9W data big t a fs
 | [], _, _ => rfl
 | f :: r, t, a => by
  simp only [a1m, b9W]
  cases t && isT f with
  | true => exact a40
  | false => simp only [f23, List.map_cons, a40]; rfl
theorem c65 (hN : maxLen < N) {l : List D} (hl : l.length ≤ 255) (hd : data.length ≤ maxLen) (hb : a0H data) (h1 : f0Y data.length l) (h2 : a5O l) : ∃ nl, d1g N l l.length big data 0 true [] = some (nl, l.map (c4e data big)) := by
 have hm : maxLen = 9223372036854775807 := rfl
 have key := b28 (A := Int × Bool × LD) (X := Option (Bool × LD)) (S := fun x kr => b2W N l l.length big data x.1 x.2.1 x.2.2 (fun a b c => kr (a, b, c)) (fun p => some p)) (L := fun m x => b6A N l l.length big data m x.1 x.2.1 x.2.2 (fun p => some p)) (fun m x => rfl)
  (fun x r => ∃ nl, r = some (nl, x.2.2 ++ (l.drop x.1.toNat).map (c4e data big))) (fun x => 0 ≤ x.1 ∧ x.1 ≤ l.length ∧ (x.2.2.length : Int) ≤ x.1) (fun x => (l.length - x.1).toNat) ?_ N (0, true, []) ⟨by show (0 : Int) ≤ 0; omega, by show (0 : Int) ≤ _; omega, by simp⟩ (by simp; omega)
 ·obtain ⟨nl, k2⟩ := key
  exact ⟨nl, Eq.trans k2 (by simp)⟩
 ·rintro ⟨w, b, acc⟩ kr ⟨h0, h3, h4⟩ ih
  simp only at h0 h3 h4 ih ⊢
  unfold b2W
  by_cases hw : w < l.length
  ·have hf := h2 _ (a0S (fs := l) h0 hw)
   have ha := b64 (i := w.toNat) h1 (by omega)
   have r1 : decide ((acc.length + 1) * 48 ≤ a1j) = true := decide_eq_true (by unfold a1j; omega)
   have r2 : decide (acc.length + 1 ≤ a0i) = true := decide_eq_true (by unfold a0i; omega)
   have q := d8j (N := N) (s := fS (l.getD w.toNat (.i 0))) (t := fT (l.getD w.toNat (.i 0))) (at_ := ((l.getD w.toNat (.i 0)).cell 3).toI) (data := data) hN big ha.1 ha.2 (by omega) hd (d2Q hf ha.1 ha.2 hb)
   rw [decide_eq_true hw, a0P h0 hw, a2p (.i 0) h0 hw]
   have q' : c6o N ((l.getD w.toNat (.i 0)).cell 1).toI ((l.getD w.toNat (.i 0)).cell 2).toI ((l.getD w.toNat (.i 0)).cell 3).toI data big = _ := q
   simp only [f22, a0s, q', f27, getD_some, r1, r2, Bool.and_self, a0Y (x := w + 1) (by omega) (by omega), List.map_cons]
   obtain ⟨nl, e⟩ := ih (w + 1, false, acc ++ [c4e data big (l.getD w.toNat (.i 0))]) ⟨by simp only; omega, by simp only; omega, by simp; omega⟩ (by simp only; omega)
   exact ⟨nl, by rw [← List.append_cons] at e; exact e⟩
  ·have : w = l.length := by omega
   subst this
   rw [decide_eq_false hw, a2t (by omega)]
   exact ⟨b, by simp⟩
theorem d8k (hN : maxLen < N) (h : a1I fs) (ht : a5O fs) (hd : data.length ≤ maxLen) (hb : a0H data) (kind : Int) (hlen : szL (flds (kind == 3) fs) ≤ data.length) :
  ∃ nl, c6q N big fs (tmL 0 fs) kind data = some (nl, b9W data big (kind == 3) 0 fs) := by
 obtain ⟨n1, q1⟩ := c4d (N := N) hN h ht (kind == 3)
 obtain ⟨a1, a2⟩ := a7V (t := kind == 3) (a := 0) (n := data.length) ht (by omega) (by omega)
 obtain ⟨n2, q2⟩ := c65 (N := N) (big := big) hN (l := a1m (kind == 3) 0 fs) (by have := a5G (fs := fs) (t := kind == 3) (a := 0); have := h.len; omega) hd hb a1 a2
 refine ⟨n2, ?_⟩
 unfold c6q d1i
 simp only [a0s]
 rw [q1]
 simp only [f27, getD_some, f22]
 rw [q2, a40]
 rfl
theorem a5O.flds : ∀ {fs : List D} {t : Bool}, a5O fs → a5O (flds t fs)
 | [], _, _, f, hf => by simp [Proofs.Ytfogaejiehebeaa.flds] at hf
 | f :: r, t, h, x, hx => by
  have h3 : a5O r := fun x hx => h x (by simp [hx])
  simp only [Proofs.Ytfogaejiehebeaa.flds] at hx
  cases hh : t && isT f with
  | true => rw [hh] at hx; exact a5O.flds h3 x hx
  | false =>
   rw [hh] at hx
   rcases f3d.1 hx with rfl | hx
   ·exact h f (by simp)
   ·exact a5O.flds h3 x hx
end
end Go.Proofs.Ytfogaejiehebeaa

namespace Go.Proofs.Ytfogaejiehebeaa
open Go Go.AM
set_option maxRecDepth 100000
set_option maxHeartbeats 4000000
set_option linter.unusedVariables false
variable {N : Nat}
section
variable {vs : List D}
end
def OkT (a : Ab) : Prop := ∀ j, a.kn j = true → a5O (a.fs j)
theorem OkT.step {a : Ab} (h : OkT a) {x : D} (hx : c2f a x = 0) : OkT (a2a a x) := by
 unfold a2a b6Z
 cases hk : kX x == 1 with
 | true =>
  have hE := a2E hx
  have hf := d8f (hE.d (by simpa using hk)).2
  intro j hj
  simp only [f22, upA] at hj ⊢
  by_cases e : j = (sX x).toNat
  ·simp only [if_pos e]; exact hf
  ·simp only [if_neg e] at hj ⊢; exact h j hj
 | false => exact h
theorem OkT.start : OkT Ab.start := fun j hj => by simp [Ab.start] at hj
def e23 (a : Ab) (x : D) : List D := b9W (bX x) (a.bg (sX x).toNat) (kX x == 3) 0 (a.fs (sX x).toNat)
theorem d2R {a : Ab} {x : D} (ha : OkA a) (ht : OkT a) (h : c2f a x = 0) (hx : a3x x) (hk : kX x ≠ 1) : a1I (a.fs (sX x).toNat) ∧ a5O (a.fs (sX x).toNat) ∧ szL (flds (kX x == 3) (a.fs (sX x).toNat)) ≤ (bX x).length ∧ (bX x).length ≤ maxLen ∧ a0H (bX x) ∧ a.kn (sX x).toNat = true := by
 have hE := a2E h
 have hkn := (hE.n hk).1
 have hf := ha _ hkn
 refine ⟨hf, ht _ hkn, ?_, hx.b, hx.y, hkn⟩
 by_cases h3 : kX x = 3
 ·obtain ⟨t0, l0, o0, o1, hl⟩ := hE.h h3
  have := (b6U (a := 0) (by omega) hf.size).2 t0
  rw [h3]
  show szL (flds true _) ≤ _
  rw [this]
  omega
 ·have h2 : kX x = 2 := by have := hE.k; omega
  have := hE.t h2
  rw [h2]
  show szL (flds false _) ≤ _
  rw [a2u]
  omega
section
variable {es : List D}
end
end Go.Proofs.Ytfogaejiehebeaa

namespace Go.Proofs.Ytfogaejiehebeaa
open Go Go.AM
set_option maxRecDepth 100000
set_option maxHeartbeats 4000000
set_option linter.unusedVariables false
variable {N : Nat}
def abN : Ab → List D → Nat → Ab
 | a, _, 0 => a
 | a, [], _ + 1 => a
 | a, x :: r, i + 1 => abN (a2a a x) r i
theorem a51 : ∀ {es : List D} {a : Ab} {i : Nat}, OkA a → OkT a → a3c a es = 0 → i < es.length → OkA (abN a es i) ∧ OkT (abN a es i) ∧ c2f (abN a es i) (es.getD i (.i 0)) = 0
 | x :: r, a, 0, ha, ht, h, _ => ⟨ha, ht, (a7U h).1⟩
 | x :: r, a, i + 1, ha, ht, h, hi => by
  obtain ⟨h1, h2⟩ := a7U h
  exact a51 (es := r) (a := a2a a x) (ha.step h1) (ht.step h1) h2 (by simpa using hi)
 | [], _, _, _, _, _, hi => by simp at hi
theorem c4f : ∀ {es : List D} {a : Ab} {i : Nat}, i < es.length → abN a es (i + 1) = a2a (abN a es i) (es.getD i (.i 0))
 | x :: r, a, 0, _ => by cases r <;> rfl
 | x :: r, a, i + 1, hi => c4f (es := r) (a := a2a a x) (by simpa using hi)
 | [], _, _, hi => by simp at hi
theorem e8m : ∀ {es ds : List D} {a : Ab} {i : Nat}, PlL a es ds → i < es.length → d8b (abN a es i) (es.getD i (.i 0)) (ds.getD i (.i 0))
 | x :: r, ds, a, 0, h, _ => by
  obtain ⟨d, r', rfl, h1, h2⟩ := h.at_
  exact h1
 | x :: r, ds, a, i + 1, h, hi => by
  obtain ⟨d, r', rfl, h1, h2⟩ := h.at_
  exact e8m (es := r) (a := a2a a x) h2 (by simpa using hi)
 | [], _, _, _, _, hi => by simp at hi
def a2q (es : List D) (k : Int) : Int := bif fileE es != 0 then fileE es else bif (bif decide (k < 0) then true else decide (k ≥ (es.length : Int))) then 4 else bif kX (es.getD k.toNat (.i 0)) == 1 then 7 else 0
section
variable {es : List D}
theorem b65 {k : Int} (h : a2q es k = 0) : fileE es = 0 ∧ 0 ≤ k ∧ k < es.length ∧ kX (es.getD k.toNat (.i 0)) ≠ 1 := by
 unfold a2q at h
 cases h1 : fileE es != 0 with
 | true => rw [h1] at h; exact absurd h (by simpa using h1)
 | false =>
  rw [h1] at h
  simp only [f23] at h
  by_cases h2 : k < 0
  ·rw [decide_eq_true h2] at h; exact absurd (show (4 : Int) = 0 from h) (by decide)
  ·by_cases h3 : k ≥ (es.length : Int)
   ·rw [decide_eq_false h2, decide_eq_true h3] at h; exact absurd (show (4 : Int) = 0 from h) (by decide)
   ·rw [decide_eq_false h2, decide_eq_false h3] at h
    simp only [f23] at h
    refine ⟨by simpa using h1, by omega, by omega, fun h4 => ?_⟩
    rw [show (kX (es.getD k.toNat (.i 0)) == 1) = true from by rw [h4]; rfl] at h
    exact absurd (show (7 : Int) = 0 from h) (by decide)
theorem e8n (hN : maxLen < N) (hes : ∀ x ∈ es, a3x x) (k : Int) : c6P N es k = some (a2q es k) := by
 unfold c6P c6O a2q
 rw [(a4g (N := N) hN hes).2]
 simp only [a0s, f27, f22, getD_some]
 cases h1 : fileE es != 0 with
 | true => rfl
 | false =>
  simp only [f23]
  by_cases h2 : k < 0
  ·rw [decide_eq_true h2]; rfl
  ·by_cases h3 : k ≥ (es.length : Int)
   ·rw [decide_eq_false h2, decide_eq_true h3]; rfl
   ·rw [decide_eq_false h2, decide_eq_false h3, a0P (by omega) (by omega)]
    simp only [f23, f22]
    cases h4 : ((es.getD k.toNat (.i 0)).cell 0).toI == 1 with
    | true => rfl
    | false => rfl
theorem c4g {n : Nat} (h : n ≤ es.length) : ((es.take n).drop 0).length = n := by simp; omega
theorem d8l {n : Nat} {i : Int} (h0 : 0 ≤ i) (h1 : i < n) (h : n ≤ es.length) : ((es.take n).drop 0).getD i.toNat (.i 0) = es.getD i.toNat (.i 0) := by
 rw [List.drop_zero, f26, f26, List.getElem?_take, if_pos (by omega)]
theorem d2S (hN : maxLen < N) (hes : ∀ x ∈ es, a3x x) (hl : es.length ≤ 50000) (he : a3c Ab.start es = 0) {n : Nat} (hn : n ≤ es.length) : ∀ (m : Nat) (i : Int) (p s : D), 0 ≤ i → i ≤ n → (n - i).toNat < m → Wk p s (abN Ab.start es i.toNat) i →
  ∃ p' s', a7i N ((es.take n).drop 0) n m i p (fun p => some p) = some p' ∧ Wk p' s' (abN Ab.start es n) n := by
 intro m
 induction m with
 | zero => intro i p s _ _ h; omega
 | succ m ih =>
  intro i p s h0 h1 hm hs
  unfold a7i b0l
  by_cases hi : i < n
  ·have hx : a3x (es.getD i.toNat (.i 0)) := hes _ (a0S (fs := es) h0 (by omega))
   have hE := (a51 (i := i.toNat) OkA.start OkT.start he (by omega)).2.2
   obtain ⟨p', s', q1, q2, hs'⟩ := b60 hN hs hx h0 (by omega) hE
   rw [decide_eq_true hi, a0P h0 (by rw [c4g hn]; omega), d8l h0 hi hn, q1]
   simp only [f22, a0s, f27, getD_some, a0Y (x := i + 1) (by omega) (by omega)]
   have hnx : (i + 1).toNat = i.toNat + 1 := by omega
   refine ih (i + 1) p' s' (by omega) (by omega) (by omega) ?_
   rw [hnx, c4f (by omega)]
   exact hs'
  ·have : i = n := by omega
   subst this
   rw [decide_eq_false hi]
   exact ⟨p, s, rfl, by simpa using hs⟩
structure f2Q (a : Ab) (x : D) (t : Ty0) : Prop where
 g : t.2.1 = a.bg (sX x).toNat
 f : t.2.2.2.2.1 = a.fs (sX x).toNat
 t : t.2.2.2.2.2.2.1 = tmL 0 (a.fs (sX x).toNat)
theorem e0l (hN : maxLen < N) (hes : ∀ x ∈ es, a3x x) (k : Int) : ∃ t : Ty0, c52 N es k = some t ∧ t.2.2.2.2.2.2.2 = a2q es k ∧ (a2q es k = 0 → f2Q (abN Ab.start es k.toNat) (es.getD k.toNat (.i 0)) t) := by
 have hmx : maxLen = 9223372036854775807 := rfl
 unfold c52 c51 a2q
 rw [(a4g (N := N) hN hes).1]
 simp only [a0s, f27, f22, getD_some]
 cases h1 : fileE es != 0 with
 | true => exact ⟨_, rfl, rfl, fun h => absurd h (by simpa using h1)⟩
 | false =>
  have hz : fileE es = 0 := by simpa using h1
  obtain ⟨hl, he⟩ := b0X hz
  simp only [f23]
  unfold a2N c1x
  rw [a0Y (x := (es.length : Int) - 1) (by omega) (by omega)]
  by_cases h2 : k < 0
  ·rw [decide_eq_true h2, decide_eq_false (show ¬ k ≥ 0 by omega)]; exact ⟨_, rfl, rfl, fun h => absurd (show (4 : Int) = 0 from h) (by decide)⟩
  ·by_cases h3 : k ≥ (es.length : Int)
   ·rw [decide_eq_false h2, decide_eq_true h3, decide_eq_true (show k ≥ 0 by omega), decide_eq_false (show ¬ k ≤ (es.length : Int) - 1 by omega)]; exact ⟨_, rfl, rfl, fun h => absurd (show (4 : Int) = 0 from h) (by decide)⟩
   ·obtain ⟨p', s', q1, q2⟩ := d2S hN hes hl he (n := k.toNat) (by omega) N 0 (a9T N) b3b (by omega) (by omega) (by omega) (by simpa [abN] using c2g)
    have y1 : c3E N ((es.take k.toNat).drop 0) (((es.take k.toNat).drop 0).length : Int) 0 (a9T N) = some p' := by rw [c4g (by omega)]; exact q1
    rw [decide_eq_false h2, decide_eq_false h3, decide_eq_true (show k ≥ 0 by omega), decide_eq_true (show k ≤ (es.length : Int) - 1 by omega), decide_eq_true (show k ≤ (es.length : Int) by omega), y1, a0P (by omega) (by omega)]
    simp only [f23, f22, Bool.not_true, Bool.and_true, f27, getD_some]
    cases h4 : ((es.getD k.toNat (.i 0)).cell 0).toI == 1 with
    | true => exact ⟨_, rfl, rfl, fun h => absurd (show (7 : Int) = 0 from h) (by decide)⟩
    | false =>
     have hk : kX (es.getD k.toNat (.i 0)) ≠ 1 := by simpa [kX] using h4
     obtain ⟨oa, ot, oe⟩ := a51 (i := k.toNat) OkA.start OkT.start he (by omega)
     have hE := a2E oe
     obtain ⟨i1, i2⟩ := hE.s
     simp only [f23]
     rw [show inB ((es.getD k.toNat (.i 0)).cell 1).toI 16 = true from i1]
     obtain ⟨_, d1, d2, d3, d4, d5⟩ := q2.pp.df _ i2 (hE.n hk).1
     exact ⟨_, rfl, rfl, fun _ => ⟨d1, d3, d5⟩⟩
def a7W (es : List D) (k : Int) : List D := bif a2q es k != 0 then [] else e23 (abN Ab.start es k.toNat) (es.getD k.toNat (.i 0))
theorem e8o (hN : maxLen < N) (hes : ∀ x ∈ es, a3x x) (k : Int) : ∃ nl, e4B N es k = some (nl, a7W es k, a2q es k) := by
 obtain ⟨t, h1, h2, h3⟩ := e0l hN hes k
 unfold e4B e4A a7W
 rw [h1]
 simp only [a0s, f27, f22, getD_some, h2]
 cases hd : a2q es k != 0 with
 | true => exact ⟨_, rfl⟩
 | false =>
  have hz : a2q es k = 0 := by simpa using hd
  obtain ⟨z1, z2, z3, z4⟩ := b65 hz
  obtain ⟨hl, he⟩ := b0X z1
  obtain ⟨oa, ot, oe⟩ := a51 (i := k.toNat) OkA.start OkT.start he (by omega)
  have hx : a3x (es.getD k.toNat (.i 0)) := hes _ (a0S (fs := es) z2 z3)
  obtain ⟨e1, e2, e3, e4, e5, e6⟩ := d2R oa ot oe hx z4
  obtain ⟨g1, g2, g3⟩ := h3 hz
  obtain ⟨nl, q⟩ := d8k (N := N) (big := t.2.1) hN e1 e2 e4 e5 (kX (es.getD k.toNat (.i 0))) e3
  rw [a0P z2 z3, g2, g3]
  have q' : c6q N t.2.1 ((abN Ab.start es k.toNat).fs (sX (es.getD k.toNat (.i 0))).toNat) (tmL 0 ((abN Ab.start es k.toNat).fs (sX (es.getD k.toNat (.i 0))).toNat)) ((es.getD k.toNat (.i 0)).cell 0).toI ((es.getD k.toNat (.i 0)).cell 4).items = _ := q
  rw [q']
  simp only [f27, f22, getD_some, f23]
  refine ⟨nl, ?_⟩
  unfold e23
  rw [g1, hz]
end
end Go.Proofs.Ytfogaejiehebeaa

namespace Go.Proofs.Ytfogaejiehebeaa
open Go Go.AM
set_option maxRecDepth 100000
set_option maxHeartbeats 4000000
set_option linter.unusedVariables false
variable {N : Nat}
def nbS (s n : Int) (big : Bool) : List D := bif s == 1 then nb1 n else bif s == 2 then nb2 n big else nb4 n big
theorem f2R (hN : maxLen < N) {s : Int} (h : Sz s) (n : Int) (big : Bool) : b6u N n s big = some (nbS s n big) := by
 rcases h with rfl | rfl | rfl
 ·exact f1L hN n big
 ·exact f1M hN n big
 ·exact f1N hN n big
theorem f2S (hN : maxLen < N) {s : Int} (h : Sz s) (n : Int) (big : Bool) : b9U N n s big = some (nbS s n big) := by
 rcases h with rfl | rfl | rfl
 ·exact f1O hN n big
 ·exact f1P hN n big
 ·exact f1Q hN n big
theorem d2T {s : Int} (h : Sz s) (n : Int) (big : Bool) : ((nbS s n big).length : Int) = s := by
 rcases h with rfl | rfl | rfl
 ·rfl
 ·cases big <;> rfl
 ·cases big <;> rfl
theorem e0m {s : Int} (h : Sz s) (n : Int) (big : Bool) : a0H (nbS s n big) := by
 rcases h with rfl | rfl | rfl
 ·intro x hx
  simp only [nbS, nb1] at hx
  have : x = bt n 0 := by simpa using hx
  rw [this]; exact c2i n 0
 ·exact e8h n big
 ·exact e8g n big
def a9G (s : Int) (sg : Bool) : Int := bif sg then -(a2F s true) - 1 else 0
def a6t (s t vi : Int) (vt : List UInt8) (vm big : Bool) : Int × List D :=
 bif (bif t == 1 then true else t == 0) then
  bif vm then (bif (bif vi != 0 then true else !(vt == [])) then (2, []) else (0, nbS s (a2F s (t == 1)) big))
  else bif !(vt == []) then (2, []) else bif !inI vi (a9G s (t == 1)) (a2F s (t == 1) - 1) then (9, []) else (0, nbS s vi big)
 else bif t == 2 then
  bif vm then (bif (bif vi != 0 then true else !(vt == [])) then (2, []) else (0, List.replicate s.toNat (.i 0)))
  else bif (bif (bif vi != 0 then true else vt == []) then true else decide (Lib.indexByte vt 0 ≥ 0)) then (2, []) else bif decide ((vt.length : Int) > s) then (3, []) else (0, a0E vt ++ List.replicate (s - vt.length).toNat (.i 0))
 else
  bif vm then (2, []) else bif (bif vi != 0 then true else (vt.length : Int) != s) then (2, []) else (0, a0E vt)
theorem a3L (l : List UInt8) : (a0E l).length = l.length := by unfold a0E; simp
theorem b9X (l : List UInt8) : a0H (a0E l) := by
 intro x hx
 unfold a0E at hx
 obtain ⟨c, _, rfl⟩ := List.mem_map.1 hx
 have := c.toNat_lt
 simp only [c4Q, D.toI]
 omega
theorem c4h (n : Nat) : a0H (List.replicate n (.i 0)) := fun x hx => by
 rw [(List.mem_replicate.1 hx).2]; exact ⟨by decide, by decide⟩
theorem b66 {s t vi : Int} {vt : List UInt8} {vm big : Bool} (hs : 1 ≤ s ∧ s ≤ 255) (hz : t ≤ 1 → s = 1 ∨ s = 2 ∨ s = 4) (h0 : 0 ≤ t ∧ t ≤ 3) (h : (a6t s t vi vt vm big).1 = 0) : ((a6t s t vi vt vm big).2.length : Int) = s ∧ a0H (a6t s t vi vt vm big).2 := by
 unfold a6t at h ⊢
 cases c1 : (bif t == 1 then true else t == 0) with
 | true =>
  have ht : Sz s := hz (by cases c2 : t == 1 <;> rw [c2] at c1 <;> simp at c1 c2 <;> omega)
  rw [c1] at h
  simp only [f22] at h ⊢
  cases vm with
  | true =>
   simp only [f22] at h ⊢
   cases c3 : (bif vi != 0 then true else !(vt == [])) with
   | true => rw [c3] at h; exact absurd (show (2 : Int) = 0 from h) (by decide)
   | false => exact ⟨d2T ht _ _, e0m ht _ _⟩
  | false =>
   simp only [f23] at h ⊢
   cases c3 : !(vt == []) with
   | true => rw [c3] at h; exact absurd (show (2 : Int) = 0 from h) (by decide)
   | false =>
    rw [c3] at h
    simp only [f23] at h ⊢
    cases c4 : !inI vi (a9G s (t == 1)) (a2F s (t == 1) - 1) with
    | true => rw [c4] at h; exact absurd (show (9 : Int) = 0 from h) (by decide)
    | false => exact ⟨d2T ht _ _, e0m ht _ _⟩
 | false =>
  rw [c1] at h
  simp only [f23] at h ⊢
  cases c2 : t == 2 with
  | true =>
   rw [c2] at h
   simp only [f22] at h ⊢
   cases vm with
   | true =>
    simp only [f22] at h ⊢
    cases c3 : (bif vi != 0 then true else !(vt == [])) with
    | true => rw [c3] at h; exact absurd (show (2 : Int) = 0 from h) (by decide)
    | false => exact ⟨by simp only [f23, List.length_replicate]; omega, c4h _⟩
   | false =>
    simp only [f23] at h ⊢
    cases c3 : (bif (bif vi != 0 then true else vt == []) then true else decide (Lib.indexByte vt 0 ≥ 0)) with
    | true => rw [c3] at h; exact absurd (show (2 : Int) = 0 from h) (by decide)
    | false =>
     rw [c3] at h
     simp only [f23] at h ⊢
     cases c4 : decide ((vt.length : Int) > s) with
     | true => rw [c4] at h; exact absurd (show (3 : Int) = 0 from h) (by decide)
     | false =>
      have : ¬ (vt.length : Int) > s := by simpa using c4
      refine ⟨?_, ?_⟩
      ·simp only [f23, List.length_append, List.length_replicate, a3L]; omega
      ·simp only [f23]; exact (b9X vt).append (c4h _)
  | false =>
   rw [c2] at h
   simp only [f23] at h ⊢
   cases vm with
   | true => exact absurd (show (2 : Int) = 0 from h) (by decide)
   | false =>
    simp only [f23] at h ⊢
    cases c3 : (bif vi != 0 then true else (vt.length : Int) != s) with
    | true => rw [c3] at h; exact absurd (show (2 : Int) = 0 from h) (by decide)
    | false =>
     have : (vt.length : Int) = s := by
      cases c4 : vi != 0 with
      | true => rw [c4] at c3; cases c3
      | false => rw [c4] at c3; simpa using c3
     simp only [f23]
     exact ⟨by rw [a3L]; exact this, b9X vt⟩
theorem d2U {s : Int} (hs : 1 ≤ s ∧ s ≤ 255) : ∃ m, a7b N s false = some m := by
 unfold a7b c1B
 rw [a0Y (x := 8 * s) (by omega) (by omega), decide_eq_true (show (0 : Int) ≤ 8 * s by omega)]
 exact ⟨_, rfl⟩
theorem e8p (vt : List UInt8) : c1T N vt = bif ([0] : List UInt8) == vt then true else decide (Lib.indexByte vt 0 ≥ 0) := by
 unfold c1T c6b d65 c6a c1S c1R d0N c1Q
 cases ([0] : List UInt8) == vt <;> rfl
theorem d8m {vt : List UInt8} (h : (([0] : List UInt8) == vt) = true) : decide (Lib.indexByte vt 0 ≥ 0) = true := by
 have := eq_of_beq h
 rw [← this]; decide
theorem d2V (vt : List UInt8) : c1T N vt = decide (Lib.indexByte vt 0 ≥ 0) := by
 rw [e8p]
 cases h : ([0] : List UInt8) == vt with
 | true => exact (d8m h).symm
 | false => rfl
theorem f1T {s : Int} (h : Sz s) (sg : Bool) : b0r N (a2F s sg) 0 sg = a9G s sg := by
 rcases h with rfl | rfl | rfl <;> cases sg <;> kernel_rfl
theorem f1U {s : Int} (h : Sz s) (sg : Bool) : b0Z N 0 sg s = some (a9G s sg) := by
 rcases h with rfl | rfl | rfl <;> cases sg <;> kernel_rfl
theorem b9Y {s : Int} (h : Sz s) (sg : Bool) : IntKind.wrap .i64 (a2F s sg - 1) = a2F s sg - 1 := by
 rcases h with rfl | rfl | rfl <;> cases sg <;> kernel_rfl
theorem f2T (a b c : Int) : a2N N a b c = inI a b c := b0T a b c
theorem f1V (a b c : Int) : a8Z N a b c = !inI a b c := b0U a b c
theorem e0n {s : Int} {vt : List UInt8} (h0 : 0 ≤ s) (h : ¬ (vt.length : Int) > s) : (a0E vt).take (List.replicate s.toNat ((.i 0) : D)).length ++ (List.replicate s.toNat ((.i 0) : D)).drop (a0E vt).length = a0E vt ++ List.replicate (s - vt.length).toNat (.i 0) := by
 rw [List.length_replicate, List.take_of_length_le (by rw [a3L]; omega), List.drop_replicate, a3L]
 congr 2
 omega
theorem a81 {n : Nat} (h : n ≤ 1000000) : (decide (n * 1 ≤ a1j) && decide (n ≤ a0i)) = true := by
 rw [decide_eq_true (show n * 1 ≤ a1j by unfold a1j; omega), decide_eq_true (show n ≤ a0i by unfold a0i; omega)]; rfl
theorem f1W (hN : maxLen < N) {s t vi : Int} {vt : List UInt8} {vm big : Bool} (hs : 1 ≤ s ∧ s ≤ 255) (hz : t ≤ 1 → s = 1 ∨ s = 2 ∨ s = 4) (h0 : 0 ≤ t ∧ t ≤ 3) (hl : vt.length ≤ maxLen) : ∃ nl, d00 N s t vi vt vm big = some (nl, (a6t s t vi vt vm big).2, (a6t s t vi vt vm big).1) := by
 have hm : maxLen = 9223372036854775807 := rfl
 have hr : (((decide (0 ≤ s)) && (decide (s ≤ s))) && (decide (s.toNat * 1 ≤ a1j) && decide (s.toNat ≤ a0i))) = true := by
  rw [a81 (by omega), decide_eq_true (show 0 ≤ s by omega), decide_eq_true (Int.le_refl s)]; rfl
 unfold d00 d0Z a6t b0s a7r b0t a5u
 cases c1 : (bif t == 1 then true else t == 0) with
 | true =>
  have ht : Sz s := hz (by cases c2 : t == 1 <;> rw [c2] at c1 <;> simp at c1 c2 <;> omega)
  have n3 : (t == 3) = false := by cases c2 : t == 1 <;> rw [c2] at c1 <;> simp at c1 c2 ⊢ <;> omega
  rw [b63 ht]
  simp only [a0s, f27, getD_some, f22, n3, f1T ht, b9Y ht, f2T, f2R hN ht]
  cases vm with
  | true =>
   simp only [f22]
   cases (bif vi != 0 then true else !(vt == [])) with
   | true => exact ⟨_, rfl⟩
   | false => exact ⟨_, rfl⟩
  | false =>
   simp only [f23]
   cases !(vt == []) with
   | true => exact ⟨_, rfl⟩
   | false =>
    simp only [f23]
    cases !inI vi (a9G s (t == 1)) (a2F s (t == 1) - 1) with
    | true => exact ⟨_, rfl⟩
    | false => exact ⟨_, rfl⟩
 | false =>
  have n1 : (t == 1) = false := by cases c2 : t == 1 <;> rw [c2] at c1 <;> simp at c1 ⊢
  obtain ⟨m, hmm⟩ := d2U (N := N) hs
  rw [n1, hmm]
  simp only [a0s, f27, getD_some, f22, f23, d2V]
  cases c2 : t == 2 with
  | true =>
   have n3 : (t == 3) = false := by simp at c2 ⊢; omega
   simp only [n3, f22, f23]
   cases vm with
   | true =>
    simp only [f22, hr]
    cases vi != 0 with
    | true => exact ⟨_, rfl⟩
    | false =>
     cases vt == [] with
     | true => exact ⟨_, rfl⟩
     | false => exact ⟨_, rfl⟩
   | false =>
    simp only [f23]
    cases vi != 0 with
    | true => exact ⟨_, rfl⟩
    | false =>
     simp only [f23]
     cases vt == [] with
     | true => exact ⟨_, rfl⟩
     | false =>
      simp only [f23]
      cases decide (Lib.indexByte vt 0 ≥ 0) with
      | true => exact ⟨_, rfl⟩
      | false =>
       simp only [f23]
       by_cases c4 : (vt.length : Int) > s
       ·rw [decide_eq_true c4]; exact ⟨_, rfl⟩
       ·rw [decide_eq_false c4, hr, e0n (by omega) c4]; exact ⟨_, rfl⟩
  | false =>
   have n3 : (t == 3) = true := by
    have c2' : t ≠ 2 := by simpa using c2
    have n1' : t ≠ 1 := by simpa using n1
    have n0' : t ≠ 0 := by rw [n1] at c1; simpa using c1
    simp; omega
   simp only [n3, f22, f23]
   cases vm with
   | true =>
    simp only [f22]
    cases vi != 0 with
    | true => exact ⟨_, rfl⟩
    | false =>
     cases vt == [] with
     | true => exact ⟨_, rfl⟩
     | false => exact ⟨_, rfl⟩
   | false =>
    simp only [f23]
    cases vi != 0 with
    | true => exact ⟨_, rfl⟩
    | false =>
     simp only [f23]
     cases c4 : (vt.length : Int) != s with
     | true => exact ⟨_, rfl⟩
     | false =>
      have c5 : (vt.length : Int) = s := by simpa using c4
      rw [hr, e0n (by omega) (by omega), show (s - (vt.length : Int)).toNat = 0 by omega]
      simp only [List.replicate_zero, List.append_nil]
      exact ⟨_, rfl⟩
theorem f1X (hN : maxLen < N) {s t vi : Int} {vt : List UInt8} {vm big : Bool} (hs : 1 ≤ s ∧ s ≤ 255) (hz : t ≤ 1 → s = 1 ∨ s = 2 ∨ s = 4) (h0 : 0 ≤ t ∧ t ≤ 3) (hl : vt.length ≤ maxLen) : ∃ nl, d2W N s t vi vt vm big = some (nl, (a6t s t vi vt vm big).2, (a6t s t vi vt vm big).1) := by
 have hm : maxLen = 9223372036854775807 := rfl
 have hr : (((decide (0 ≤ s)) && (decide (s ≤ s))) && (decide (s.toNat * 1 ≤ a1j) && decide (s.toNat ≤ a0i))) = true := by
  rw [a81 (by omega), decide_eq_true (show 0 ≤ s by omega), decide_eq_true (Int.le_refl s)]; rfl
 unfold d2W d2X a6t b00 a5H
 cases c1 : (bif t == 1 then true else t == 0) with
 | true =>
  have ht : Sz s := hz (by cases c2 : t == 1 <;> rw [c2] at c1 <;> simp at c1 c2 <;> omega)
  have n3 : (t == 3) = false := by cases c2 : t == 1 <;> rw [c2] at c1 <;> simp at c1 c2 ⊢ <;> omega
  have n2 : (t == 2) = false := by cases c2 : t == 1 <;> rw [c2] at c1 <;> simp at c1 c2 ⊢ <;> omega
  rw [d8g ht]
  simp only [a0s, f27, getD_some, f22, f23, n3, n2, f1U ht, b9Y ht, f1V, f2S hN ht]
  cases vm with
  | true =>
   simp only [f22]
   cases (bif vi != 0 then true else !(vt == [])) with
   | true => exact ⟨_, rfl⟩
   | false => exact ⟨_, rfl⟩
  | false =>
   simp only [f23]
   cases !(vt == []) with
   | true => exact ⟨_, rfl⟩
   | false =>
    simp only [f23]
    cases !inI vi (a9G s (t == 1)) (a2F s (t == 1) - 1) with
    | true => exact ⟨_, rfl⟩
    | false => exact ⟨_, rfl⟩
 | false =>
  have n1 : (t == 1) = false := by cases c2 : t == 1 <;> rw [c2] at c1 <;> simp at c1 ⊢
  simp only [a0s, f27, getD_some, f22, f23, d2V]
  cases c2 : t == 2 with
  | true =>
   have n3 : (t == 3) = false := by simp at c2 ⊢; omega
   simp only [n3, f22, f23]
   cases vm with
   | true =>
    simp only [f22, hr]
    cases vi != 0 with
    | true => exact ⟨_, rfl⟩
    | false =>
     cases vt == [] with
     | true => exact ⟨_, rfl⟩
     | false => exact ⟨_, rfl⟩
   | false =>
    simp only [f23]
    cases (bif vi != 0 then true else vt == []) with
    | true => exact ⟨_, rfl⟩
    | false =>
     simp only [f23]
     cases decide (Lib.indexByte vt 0 ≥ 0) with
     | true => exact ⟨_, rfl⟩
     | false =>
      simp only [f23]
      by_cases c4 : (vt.length : Int) > s
      ·rw [decide_eq_true c4]; exact ⟨_, rfl⟩
      ·rw [decide_eq_false c4, a0Y (x := s - (vt.length : Int)) (by omega) (by omega), a81 (by rw [a3L]; omega), decide_eq_true (show 0 ≤ s - (vt.length : Int) by omega), show Nat.ble vt.length a0i = true from (by rw [Nat.ble_eq]; unfold a0i; omega)]
       exact ⟨_, rfl⟩
  | false =>
   have n3 : (t == 3) = true := by
    have c2' : t ≠ 2 := by simpa using c2
    have n1' : t ≠ 1 := by simpa using n1
    have n0' : t ≠ 0 := by rw [n1] at c1; simpa using c1
    simp; omega
   simp only [n3, f22, f23]
   cases vm with
   | true =>
    simp only [f22]
    cases vi != 0 with
    | true => exact ⟨_, rfl⟩
    | false =>
     cases vt == [] with
     | true => exact ⟨_, rfl⟩
     | false => exact ⟨_, rfl⟩
   | false =>
    simp only [f23]
    cases c5 : vi != 0 with
    | true => exact ⟨_, rfl⟩
    | false =>
     simp only [f23]
     cases c4 : (vt.length : Int) != s with
     | true => exact ⟨_, rfl⟩
     | false =>
      have c5 : (vt.length : Int) = s := by simpa using c4
      rw [show Nat.ble vt.length a0i = true from (by rw [Nat.ble_eq]; unfold a0i; omega)]
      exact ⟨_, rfl⟩
end Go.Proofs.Ytfogaejiehebeaa

namespace Go.Proofs.Ytfogaejiehebeaa
open Go Go.AM
set_option maxRecDepth 100000
set_option maxHeartbeats 4000000
set_option linter.unusedVariables false
variable {N : Nat}
theorem f2U {b : Bool} {xs : List D} (hb : b = true → xs = []) (h : xs.length ≤ 100000) : ∃ b', Ce.G68x0 N b xs = some (b', xs) ∧ (b' = true → xs = []) := by
 cases b with
 | true => rw [hb rfl]; exact ⟨true, rfl, fun _ => rfl⟩
 | false =>
  have r1 : decide ((0 + xs.length) * 1 ≤ a1j) = true := decide_eq_true (by unfold a1j; omega)
  have r2 : decide (0 + xs.length ≤ a0i) = true := decide_eq_true (by unfold a0i; omega)
  unfold Ce.G68x0 Ce.F68x0
  rw [r1, r2]
  simp
theorem d2Y (hN : maxLen < N) {dn bn : Bool} {ds data : List D} (h1 : dn = true → ds = []) (h2 : bn = true → data = []) (h3 : ds.length ≤ 1) (h4 : data.length ≤ 65025) (h5 : ∀ d ∈ ds, f0W d) (h6 : ∀ d ∈ ds, (d.cell 2).items.length ≤ 255) :
  ∃ n1 ds' n2, Ce.G44x0 N dn ds bn data = some (n1, ds', n2, data) ∧ ds'.map b33 = ds.map b33 := by
 obtain ⟨n2, q2, hn2⟩ := f2U (N := N) (xs := data) h2 (by omega)
 obtain ⟨k, rfl⟩ := a8R hN 8 (by omega)
 unfold Ce.G44x0 Ce.F44x0
 rw [q2]
 match ds, h1, h3, h5, h6 with
 | [], h1, _, _, _ =>
  cases dn with
  | true => exact ⟨true, [], n2, rfl, rfl⟩
  | false => exact ⟨false, [], n2, by kernel_rfl, rfl⟩
 | [d], h1, _, h5, h6 =>
  have hdn : dn = false := by
   cases dn with
   | false => rfl
   | true => simp at h1
  subst hdn
  obtain ⟨big, g, nl, fs, rfl, _, hnl, hfl, _⟩ := h5 d (by simp)
  have hl : fs.length ≤ 255 := h6 (.a [.b big, .i g, .l nl fs]) (by simp)
  have r1 : decide ((0 + fs.length) * 24 ≤ a1j) = true := decide_eq_true (by unfold a1j; omega)
  have r2 : decide (0 + fs.length ≤ a0i) = true := decide_eq_true (by unfold a0i; omega)
  have e12 : ∃ nl', Ce.G44x0x12 (k + 8) 1 0 [D.a [.b big, .i g, .l nl fs]] = some [D.a [.b big, .i g, .l nl' fs]] := by
   cases nl with
   | true =>
    rw [hnl rfl]
    exact ⟨true, by kernel_rfl⟩
   | false =>
    have e131 : Ce.G70x0 (k + 8) false fs = some (.inr false) := by
     unfold Ce.G70x0 Ce.F70x0
     rw [r1, r2]
     simp
    refine ⟨false, ?_⟩
    have e19 : Ce.G44x0x19 (k + 8) 0 [D.a [.b big, .i g, .l false fs]] = some [D.a [.b big, .i g, .l false fs]] := by
     have d2 : ((([D.a [.b big, .i g, .l false fs]] : List D).getD (0 : Int).toNat (.i 0)).cell 2).items = fs := rfl
     have d3 : ((([D.a [.b big, .i g, .l false fs]] : List D).getD (0 : Int).toNat (.i 0)).cell 2).isNil = false := rfl
     unfold Ce.G44x0x19 Ce.F44x0x19
     rw [d2, d3, e131]
     rfl
    have : Ce.G44x0x12 (k + 8) 1 0 [D.a [.b big, .i g, .l false fs]] = bnd (Ce.G44x0x19 (k + 8) 0 [D.a [.b big, .i g, .l false fs]]) fun y0 => bif y0.isSome then some (y0.getD default) else none := by kernel_rfl
    rw [this, e19]
    rfl
  obtain ⟨nl', e12⟩ := e12
  have e7 : Ce.G44x0x7 (k + 8) false [D.a [.b big, .i g, .l nl fs]] = some (.inr false) := by kernel_rfl
  have el : (([D.a [.b big, .i g, .l nl fs]] : List D).length : Int) = 1 := rfl
  rw [e7, el]
  simp only [a0s, f27, getD_some, f22]
  have i7 : a07 (some (Sum.inr false : Sum Unit Bool)) = false := rfl
  rw [i7]
  simp only [f23]
  have i8 : (a0I (some (Sum.inr false : Sum Unit Bool))).isSome = true := rfl
  rw [i8, e12]
  exact ⟨false, _, n2, rfl, rfl⟩
theorem d2Z (hN : maxLen < N) {dn : Bool} {data : List D} (h4 : data.length ≤ 65025) : ∃ n1, Ce.H44 N dn [] false data = some (n1, [], false) := by
 obtain ⟨k, rfl⟩ := a8R hN 8 (by omega)
 have r1 : decide ((0 + data.length) * 1 ≤ a1j) = true := decide_eq_true (by unfold a1j; omega)
 have r2 : decide (0 + data.length ≤ a0i) = true := decide_eq_true (by unfold a0i; omega)
 have e68 : Ce.Hd.G44x0x4 (k + 8) false data = some (.inr false) := by
  unfold Ce.Hd.G44x0x4 Ce.Hd.F44x0x4 Ce.Hd.G68x0 Ce.Hd.F68x0
  rw [r1, r2]
  simp [a0s, a07, a0I]
 unfold Ce.H44 Ce.Hd.G44x0 Ce.Hd.F44x0
 rw [e68]
 cases dn with
 | true => exact ⟨true, by kernel_rfl⟩
 | false => exact ⟨false, by kernel_rfl⟩
theorem b45 {x : D} (h : c62 x) : ((x.cell 3).isNil = true → dX x = []) ∧ ((x.cell 4).isNil = true → bX x = []) ∧ ∀ d ∈ dX x, f0W d := by
 obtain ⟨kind, slot, off, dn, ds, bn, data, rfl, _, _, _, h1, h2, _, _, h3, _⟩ := h
 exact ⟨h1, h2, h3⟩
theorem d8n {x : D} {n1 n2 : Bool} {ds : List D} (h : ds.map b33 = (dX x).map b33) : EqE x (Ce.dEnt x n1 ds n2 (bX x)) := ⟨rfl, rfl, rfl, h.symm, rfl⟩
theorem b9Z (hN : maxLen < N) {a : Ab} {x : D} (hx : c62 x) (ha : OkA a) (he : c2f a x = 0) : ∃ q, Ce.G44x0 N (x.cell 3).isNil (x.cell 3).items (x.cell 4).isNil (x.cell 4).items = some q ∧ EqE x (Ce.dEnt x q.1 q.2.1 q.2.2.1 q.2.2.2) := by
 obtain ⟨f1, f2, f3⟩ := b45 hx
 obtain ⟨o1, _, _, o4, o5⟩ := d2K (ha _) he
 have hE := a2E he
 have hds : (dX x).length ≤ 1 := by
  by_cases hk : kX x = 1
  ·have := (o4 hk).1; omega
  ·have := (hE.n hk).2; omega
 have hdl : ∀ d ∈ dX x, (d.cell 2).items.length ≤ 255 := by
  intro d hd
  by_cases hk : kX x = 1
  ·obtain ⟨p1, p2⟩ := o4 hk
   match hq : dX x, p1, hd with
   | [d0], _, hd =>
    have : d = d0 := by simpa using hd
    rw [this]
    rw [hq] at p2
    exact p2
  ·have h0 := (hE.n hk).2
   have : dX x = [] := List.length_eq_zero_iff.1 h0
   rw [this] at hd; simp at hd
 obtain ⟨n1, ds', n2, q1, q2⟩ := d2Y (N := N) hN f1 f2 hds o5 f3 hdl
 exact ⟨_, q1, d8n q2⟩
section
variable {es : List D}
theorem c66 {w : Int} (h0 : 0 ≤ w) (h : w < es.length) : es.take (w + 1).toNat = es.take w.toNat ++ [es.getD w.toNat (.i 0)] := by
 have hw : (w + 1).toNat = w.toNat + 1 := by omega
 have hlt : w.toNat < es.length := by omega
 rw [hw, List.take_succ_eq_append_getElem hlt, f26, f3c hlt, Option.getD_some]
theorem c4i {n : Nat} (h : n ≤ 100000) : (decide (n * 72 ≤ a1j) && decide (n ≤ a0i)) = true := by
 rw [decide_eq_true (show n * 72 ≤ a1j by unfold a1j; omega), decide_eq_true (show n ≤ a0i by unfold a0i; omega)]; rfl
theorem e8q (hN : maxLen < N) (hes : ∀ x ∈ es, c62 x) (hl : es.length ≤ 50000) (he : a3c Ab.start es = 0) : ∀ (m : Nat) (i : Int) (ys : List D), 0 ≤ i → i ≤ es.length → (es.length - i).toNat < m → (ys.length : Int) = i →
  ∃ zs, Ce.lpC N es es.length m i ys = some (ys ++ zs) ∧ All2 EqE (es.drop i.toNat) zs := by
 intro m
 induction m with
 | zero => intro i ys _ _ h; omega
 | succ m ih =>
  intro i ys h0 h1 hm hy
  have hmx : maxLen = 9223372036854775807 := rfl
  unfold Ce.lpC Ce.SC
  by_cases hi : i < es.length
  ·obtain ⟨oa, _, oe⟩ := a51 (i := i.toNat) OkA.start OkT.start he (by omega)
   obtain ⟨q, q1, q2⟩ := b9Z (N := N) hN (hes _ (a0S (fs := es) h0 hi)) oa oe
   rw [decide_eq_true hi, a0P h0 hi, q1, c4i (by omega)]
   simp only [f22, a0s, f27, getD_some, Bool.and_true, a0Y (x := i + 1) (by omega) (by omega)]
   obtain ⟨zs, z1, z2⟩ := ih (i + 1) (ys ++ [Ce.dEnt (es.getD i.toNat (.i 0)) q.1 q.2.1 q.2.2.1 q.2.2.2]) (by omega) (by omega) (by omega) (by simp; omega)
   refine ⟨Ce.dEnt (es.getD i.toNat (.i 0)) q.1 q.2.1 q.2.2.1 q.2.2.2 :: zs, ?_, ?_⟩
   ·rw [z1]; simp
   ·rw [a2p (.i 0) h0 hi]
    exact ⟨q2, z2⟩
  ·rw [decide_eq_false hi, a2t hi]
   exact ⟨[], by simp, trivial⟩
theorem e8r (hN : maxLen < N) (hes : ∀ x ∈ es, c62 x) (hl : es.length ≤ 50000) (he : a3c Ab.start es = 0) {k : Int} (hk0 : 0 ≤ k) (hk1 : k < es.length) (hk : kX (es.getD k.toNat (.i 0)) ≠ 1) (hb : bX (es.getD k.toNat (.i 0)) ≠ []) : ∀ (m : Nat) (i : Int) (nl : Bool) (ys : List D), 0 ≤ i → i ≤ k → (es.length - i).toNat < m → (ys.length : Int) = i → (nl = true → ys = []) → All2 EqE (es.take i.toNat) ys →
  ∃ n1 us zs, Ce.lpA N es es.length k m i nl ys = some (k.toNat, us ++ Ce.dEnt (es.getD k.toNat (.i 0)) n1 [] true [] :: zs, false, bX (es.getD k.toNat (.i 0))) ∧ All2 EqE (es.take k.toNat) us ∧ All2 EqE (es.drop (k.toNat + 1)) zs := by
 intro m
 induction m with
 | zero => intro i nl ys _ _ h; omega
 | succ m ih =>
  intro i nl ys h0 h1 hm hy hn ha
  have hmx : maxLen = 9223372036854775807 := rfl
  have hi : i < es.length := by omega
  obtain ⟨oa, _, oe⟩ := a51 (i := i.toNat) OkA.start OkT.start he (by omega)
  unfold Ce.lpA
  by_cases hik : i = k
  ·subst hik
   obtain ⟨f1, f2, f3⟩ := b45 (hes _ (a0S (fs := es) h0 hi))
   have hE := a2E oe
   have hd0 : ((es.getD i.toNat (.i 0)).cell 3).items = [] := List.length_eq_zero_iff.1 (hE.n hk).2
   have hbn : ((es.getD i.toNat (.i 0)).cell 4).isNil = false := by
    cases h : ((es.getD i.toNat (.i 0)).cell 4).isNil with
    | false => rfl
    | true => exact absurd (f2 h) hb
   obtain ⟨n1, q1⟩ := d2Z (N := N) hN (dn := ((es.getD i.toNat (.i 0)).cell 3).isNil) (data := bX (es.getD i.toNat (.i 0))) (d2K (oa _) oe).2.2.2.2
   have q1' : Ce.H44 N ((es.getD i.toNat (.i 0)).cell 3).isNil [] false ((es.getD i.toNat (.i 0)).cell 4).items = some (n1, [], false) := q1
   have hroom : (bif nl then ys.isEmpty else ((decide ((ys.length + 1) * 72 ≤ a1j) && decide ((ys.length + 1) ≤ a0i)) && true)) = true := by
    cases nl with
    | true => rw [hn rfl]; rfl
    | false => rw [c4i (by omega)]; rfl
   obtain ⟨zs, z1, z2⟩ := e8q hN hes hl he m (i + 1) (ys ++ [Ce.dEnt (es.getD i.toNat (.i 0)) n1 [] true []]) (by omega) (by omega) (by omega) (by simp; omega)
   unfold Ce.SH
   rw [decide_eq_true hi, decide_eq_true (rfl : i = i), a0P h0 hi, hd0, hbn, q1']
   simp only [f22, a0s, f27, getD_some, hroom, a0Y (x := i + 1) (by omega) (by omega), z1]
   refine ⟨n1, ys, zs, ?_, ha, ?_⟩
   ·simp only [Option.bind_some, List.append_assoc, List.cons_append, List.nil_append, show ys.length = i.toNat by omega]
   ·rw [show i.toNat + 1 = (i + 1).toNat by omega]; exact z2
  ·obtain ⟨q, q1, q2⟩ := b9Z (N := N) hN (hes _ (a0S (fs := es) h0 hi)) oa oe
   unfold Ce.SA
   rw [decide_eq_true hi, decide_eq_false hik, a0P h0 hi, q1, c4i (by omega)]
   simp only [f22, f23, a0s, f27, getD_some, a0Y (x := i + 1) (by omega) (by omega)]
   refine ih (i + 1) false _ (by omega) (by omega) (by omega) (by simp; omega) (fun h => by cases h) ?_
   rw [c66 h0 hi]
   exact ha.append ⟨q2, trivial⟩
end
end Go.Proofs.Ytfogaejiehebeaa

namespace Go.Proofs.Ytfogaejiehebeaa
open Go Go.AM
set_option maxRecDepth 100000
set_option maxHeartbeats 4000000
set_option linter.unusedVariables false
variable {N : Nat}
def fIx (n : Int) : List Int → Int → Option Int
 | [], _ => none
 | f :: r, w => bif f == n then some w else fIx n r (w + 1)
theorem c4j {n : Int} : ∀ {l : List Int} {w i : Int}, fIx n l w = some i → w ≤ i ∧ i < w + l.length ∧ l.getD (i - w).toNat 0 = n
 | f :: r, w, i, h => by
  unfold fIx at h
  cases hf : f == n with
  | true =>
   rw [hf] at h
   have : w = i := Option.some.inj h
   subst this
   refine ⟨Int.le_refl _, by simp only [List.length_cons]; omega, ?_⟩
   rw [Int.sub_self]
   simpa using hf
  | false =>
   rw [hf] at h
   obtain ⟨h1, h2, h3⟩ := c4j (l := r) (w := w + 1) h
   refine ⟨by omega, by simp only [List.length_cons]; omega, ?_⟩
   rw [show (i - w).toNat = (i - (w + 1)).toNat + 1 by omega]
   exact h3
def f2V : Option Int → Sum Int Unit
 | some i => .inl i
 | none => .inr ()
section
variable {l : List D}
theorem b3f {w : Int} (h0 : 0 ≤ w) (h1 : w < l.length) : (l.map fN).drop w.toNat = fN (l.getD w.toNat (.i 0)) :: (l.map fN).drop (w + 1).toNat := by
 rw [← List.map_drop, ← List.map_drop, a2p (.i 0) h0 h1]; rfl
theorem e8s (hN : maxLen < N) (hl : l.length ≤ 100000) (n : Int) : d0A N l n = some ((fIx n (l.map fN) 0).getD (-1)) := by
 have hmx : maxLen = 9223372036854775807 := rfl
 have loop : ∀ (m : Nat) (w : Int), 0 ≤ w → w ≤ l.length → (l.length - w).toNat < m → b2P N l l.length n m w (fun p => some (Sum.inl p)) (fun p => some (Sum.inr p)) = some (f2V (fIx n ((l.map fN).drop w.toNat) w)) := by
  intro m
  induction m with
  | zero => intro w _ _ h; omega
  | succ m ih =>
   intro w h0 h1 hm
   unfold b2P b6o
   by_cases hw : w < l.length
   ·rw [decide_eq_true hw, a0P h0 hw, b3f h0 hw]
    simp only [f22, a0s, d6V, c54, a0Y (x := w + 1) (by omega) (by omega), fIx]
    cases hf : fN (l.getD w.toNat (.i 0)) == n with
    | true => rw [show (((l.getD w.toNat (.i 0)).cell 0).toI == n) = true from hf]; rfl
    | false =>
     rw [show (((l.getD w.toNat (.i 0)).cell 0).toI == n) = false from hf]
     exact ih (w + 1) (by omega) (by omega) (by omega)
   ·rw [decide_eq_false hw, List.drop_eq_nil_of_le (by simp; omega)]; rfl
 have k : d0y N l l.length n 0 = _ := loop N 0 (by omega) (by omega) (by omega)
 unfold d0A c56
 rw [k]
 simp only [a0s, List.drop_zero, Int.toNat_zero]
 cases fIx n (l.map fN) 0 <;> rfl
end
theorem b90 : ∀ {fs : List D} {t : Bool} {a : Int}, (a1m t a fs).length = (flds t fs).length ∧ (a1m t a fs).map fN = (flds t fs).map fN ∧ ∀ i : Nat, i < (flds t fs).length → fS ((a1m t a fs).getD i (.i 0)) = fS ((flds t fs).getD i (.i 0)) ∧ fT ((a1m t a fs).getD i (.i 0)) = fT ((flds t fs).getD i (.i 0)) ∧ (((a1m t a fs).getD i (.i 0)).cell 3).toI = a + szL ((flds t fs).take i)
 | [], _, _ => ⟨rfl, rfl, fun i hi => by simp [flds] at hi⟩
 | f :: r, t, a => by
  simp only [a1m, flds]
  cases t && isT f with
  | true => exact b90 (fs := r) (t := false) (a := a)
  | false =>
   obtain ⟨h1, h2, h3⟩ := b90 (fs := r) (t := t) (a := a + fS f)
   refine ⟨by simp only [f23, List.length_cons, h1], by simp only [f23, List.map_cons, h2]; rfl, fun i hi => ?_⟩
   cases i with
   | zero => exact ⟨rfl, rfl, by simp [szL, D.cell, D.toI]⟩
   | succ i =>
    simp only [f23, List.length_cons] at hi
    obtain ⟨g1, g2, g3⟩ := h3 i (by omega)
    refine ⟨g1, g2, ?_⟩
    show (((a1m t (a + fS f) r).getD i (.i 0)).cell 3).toI = a + szL (.a [.i (fN f), .i (fS f), .i (fT f)] :: (flds t r).take i)
    rw [g3]
    have : szL (.a [.i (fN f), .i (fS f), .i (fT f)] :: (flds t r).take i) = fS f + szL ((flds t r).take i) := rfl
    omega
def b3L (x : D) (at_ s : Int) (b : List D) : D := .a [.i (kX x), .i (sX x), .i (oX x), .l false (dX x), .l false ((bX x).take at_.toNat ++ b ++ (bX x).drop (at_ + s).toNat)]
def b67 (es : List D) (k : Int) (x : D) (at_ s ft t vi : Int) (vt : List UInt8) (vm big : Bool) : Int × List D :=
 bif ft != t then (7, []) else
 bif (a6t s ft vi vt vm big).1 != 0 then ((a6t s ft vi vt vm big).1, []) else
 bif fileE (es.set k.toNat (b3L x at_ s (a6t s ft vi vt vm big).2)) != 0 then (fileE (es.set k.toNat (b3L x at_ s (a6t s ft vi vt vm big).2)), []) else (0, es.set k.toNat (b3L x at_ s (a6t s ft vi vt vm big).2))
def a3d (a : Ab) (x : D) : List D := a1m (kX x == 3) 0 (a.fs (sX x).toNat)
def a0q (a : Ab) (x : D) (i : Int) : D := (a3d a x).getD i.toNat (.i 0)
def b91 (es : List D) (k n t vi : Int) (vt : List UInt8) (vm : Bool) : Int × List D :=
 bif a2q es k != 0 then (a2q es k, []) else
 match fIx n ((a3d (abN Ab.start es k.toNat) (es.getD k.toNat (.i 0))).map fN) 0 with
 | none => (4, [])
 | some i => b67 es k (es.getD k.toNat (.i 0)) ((a0q (abN Ab.start es k.toNat) (es.getD k.toNat (.i 0)) i).cell 3).toI (fS (a0q (abN Ab.start es k.toNat) (es.getD k.toNat (.i 0)) i)) (fT (a0q (abN Ab.start es k.toNat) (es.getD k.toNat (.i 0)) i)) t vi vt vm ((abN Ab.start es k.toNat).bg (sX (es.getD k.toNat (.i 0))).toNat)
theorem EqE.refl' (x : D) : EqE x x := ⟨rfl, rfl, rfl, rfl, rfl⟩
theorem EqE.trans {x y z : D} (h : EqE x y) (g : EqE y z) : EqE x z := ⟨h.k.trans g.k, h.s.trans g.s, h.o.trans g.o, h.d.trans g.d, h.b.trans g.b⟩
theorem b3g (xs : List D) : All2 EqE xs xs := by
 induction xs with
 | nil => trivial
 | cons x xs ih => exact ⟨.refl' x, ih⟩
theorem EqE.entD {x y : D} (h : EqE x y) (hx : a3x x) : a3x y := by
 refine ⟨?_, by rw [show (y.cell 4).items = (x.cell 4).items from h.b.symm]; exact hx.b, fun d hd => ?_, by rw [show (y.cell 4).items = (x.cell 4).items from h.b.symm]; exact hx.y⟩
 ·have := congrArg List.length h.d
  simp only [List.length_map] at this
  show (dX y).length ≤ _
  rw [← this]; exact hx.d
 ·have hm : b33 d ∈ (dX y).map b33 := List.mem_map.2 ⟨d, hd, rfl⟩
  rw [← h.d] at hm
  obtain ⟨d', hd', e⟩ := List.mem_map.1 hm
  rw [← (b61 e).2.2]
  exact hx.f d' hd'
theorem a7X : ∀ {xs ys : List D}, All2 EqE xs ys → (∀ x ∈ xs, a3x x) → ∀ y ∈ ys, a3x y
 | [], [], _, _, y, hy => by simp at hy
 | x :: xs, z :: zs, h, hx, y, hy => by
  rcases f3d.1 hy with rfl | hy
  ·exact h.1.entD (hx x (by simp))
  ·exact a7X h.2 (fun x hx' => hx x (by simp [hx'])) y hy
 | [], _ :: _, h, _, _, _ => h.elim
 | _ :: _, [], h, _, _, _ => h.elim
theorem c2l {x : D} (hx : a3x x) {at_ s : Int} {b : List D} (h0 : 0 ≤ at_) (h1 : at_ + s ≤ (bX x).length) (hs : 0 ≤ s) (hb : a0H b) (hl : (b.length : Int) = s) : a3x (b3L x at_ s b) := by
 have hlen : ((bX x).take at_.toNat ++ b ++ (bX x).drop (at_ + s).toNat).length = (bX x).length := by
  simp only [List.length_append, List.length_take, List.length_drop]; omega
 refine ⟨hx.d, ?_, hx.f, ?_⟩
 ·show ((bX x).take at_.toNat ++ b ++ (bX x).drop (at_ + s).toNat).length ≤ _
  rw [hlen]; exact hx.b
 ·show a0H ((bX x).take at_.toNat ++ b ++ (bX x).drop (at_ + s).toNat)
  have hxy : a0H (bX x) := hx.y
  exact (a0H.append (fun y hy => hxy y (List.mem_of_mem_take hy)) hb).append (fun y hy => hxy y (List.mem_of_mem_drop hy))
theorem b68 {es : List D} (hes : ∀ x ∈ es, a3x x) {y : D} (hy : a3x y) (n : Nat) : ∀ x ∈ es.set n y, a3x x := by
 intro x hx
 rcases List.mem_or_eq_of_mem_set hx with h | h
 ·exact hes x h
 ·rw [h]; exact hy
theorem b3h {es : List D} {n : Nat} (h : n < es.length) (y : D) : es.set n y = es.take n ++ y :: es.drop (n + 1) := by
 rw [List.set_eq_take_append_cons_drop, if_pos h]
structure At (es : List D) (k : Int) : Prop where
 e : a3c Ab.start es = 0
 l : es.length ≤ 50000
 k0 : 0 ≤ k
 k1 : k < es.length
 d : kX (es.getD k.toNat (.i 0)) ≠ 1
 f : a1I ((abN Ab.start es k.toNat).fs (sX (es.getD k.toNat (.i 0))).toNat)
 t : a5O ((abN Ab.start es k.toNat).fs (sX (es.getD k.toNat (.i 0))).toNat)
 s : szL (flds (kX (es.getD k.toNat (.i 0)) == 3) ((abN Ab.start es k.toNat).fs (sX (es.getD k.toNat (.i 0))).toNat)) ≤ (bX (es.getD k.toNat (.i 0))).length
 x : a3x (es.getD k.toNat (.i 0))
theorem d20 {es : List D} (hes : ∀ x ∈ es, a3x x) {k : Int} (h : a2q es k = 0) : At es k := by
 obtain ⟨z1, z2, z3, z4⟩ := b65 h
 obtain ⟨hl, he⟩ := b0X z1
 obtain ⟨oa, ot, oe⟩ := a51 (i := k.toNat) OkA.start OkT.start he (by omega)
 have hx : a3x (es.getD k.toNat (.i 0)) := hes _ (a0S (fs := es) z2 z3)
 obtain ⟨e1, e2, e3, e4, e5, e6⟩ := d2R oa ot oe hx z4
 exact ⟨he, hl, z2, z3, z4, e1, e2, e3, hx⟩
structure e27 (es : List D) (k i : Int) : Prop where
 i0 : 0 ≤ i
 i1 : i < (a3d (abN Ab.start es k.toNat) (es.getD k.toNat (.i 0))).length
 a0 : 0 ≤ ((a0q (abN Ab.start es k.toNat) (es.getD k.toNat (.i 0)) i).cell 3).toI
 a1 : ((a0q (abN Ab.start es k.toNat) (es.getD k.toNat (.i 0)) i).cell 3).toI + fS (a0q (abN Ab.start es k.toNat) (es.getD k.toNat (.i 0)) i) ≤ (bX (es.getD k.toNat (.i 0))).length
 s : 1 ≤ fS (a0q (abN Ab.start es k.toNat) (es.getD k.toNat (.i 0)) i) ∧ fS (a0q (abN Ab.start es k.toNat) (es.getD k.toNat (.i 0)) i) ≤ 255
 t : 0 ≤ fT (a0q (abN Ab.start es k.toNat) (es.getD k.toNat (.i 0)) i) ∧ fT (a0q (abN Ab.start es k.toNat) (es.getD k.toNat (.i 0)) i) ≤ 3
 z : fT (a0q (abN Ab.start es k.toNat) (es.getD k.toNat (.i 0)) i) ≤ 1 → fS (a0q (abN Ab.start es k.toNat) (es.getD k.toNat (.i 0)) i) = 1 ∨ fS (a0q (abN Ab.start es k.toNat) (es.getD k.toNat (.i 0)) i) = 2 ∨ fS (a0q (abN Ab.start es k.toNat) (es.getD k.toNat (.i 0)) i) = 4
theorem b01 {es : List D} {k i : Int} (h : At es k) (h0 : 0 ≤ i) (h1 : i < (a3d (abN Ab.start es k.toNat) (es.getD k.toNat (.i 0))).length) : e27 es k i := by
 obtain ⟨a1, a2⟩ := a7V (t := kX (es.getD k.toNat (.i 0)) == 3) (a := 0) (n := (bX (es.getD k.toNat (.i 0))).length) h.t (by omega) (by have := h.s; omega)
 obtain ⟨b1, b2⟩ := b64 (i := i.toNat) a1 (by unfold a3d at h1; omega)
 obtain ⟨c1, c2, c3, c4, c5⟩ := a2 _ (a0S (fs := a3d (abN Ab.start es k.toNat) (es.getD k.toNat (.i 0))) h0 h1)
 exact ⟨h0, h1, b1, b2, ⟨c3, c4⟩, ⟨c1, c2⟩, c5⟩
end Go.Proofs.Ytfogaejiehebeaa

namespace Go.Proofs.Ytfogaejiehebeaa
open Go Go.AM
set_option maxRecDepth 100000
set_option maxHeartbeats 4000000
set_option linter.unusedVariables false
variable {N : Nat}
theorem f1Y : Ce.q14 = 3 := by kernel_rfl
theorem e28 {a : Ab} {x : D} (h : a1I (a.fs (sX x).toNat)) : (a3d a x).length ≤ 255 := by
 have := a5G (fs := a.fs (sX x).toNat) (t := kX x == 3) (a := 0)
 have := h.len
 unfold a3d
 omega
theorem d8o (hN : maxLen < N) {es : List D} (hes : ∀ x ∈ es, c62 x) (k n t vi : Int) {vt : List UInt8} (vm : Bool) (hl : vt.length ≤ maxLen) :
  ∃ nl out, d2w N es k n t vi vt vm = some (nl, out, (b91 es k n t vi vt vm).1) ∧ All2 EqE (b91 es k n t vi vt vm).2 out := by
 have hmx : maxLen = 9223372036854775807 := rfl
 have hed : ∀ x ∈ es, a3x x := fun x hx => (hes x hx).entD
 obtain ⟨tu, h1, h2, h3⟩ := e0l (N := N) hN hed k
 unfold d2w F7s b91
 rw [h1]
 simp only [a0s, f27, f22, getD_some, h2]
 cases hd : a2q es k != 0 with
 | true => exact ⟨_, _, rfl, trivial⟩
 | false =>
  have hz : a2q es k = 0 := by simpa using hd
  have A := d20 hed hz
  obtain ⟨g1, g2, g3⟩ := h3 hz
  have hx : c62 (es.getD k.toNat (.i 0)) := hes _ (a0S (fs := es) A.k0 A.k1)
  obtain ⟨a, ha⟩ : ∃ a, abN Ab.start es k.toNat = a := ⟨_, rfl⟩
  obtain ⟨x, hxx⟩ : ∃ x, es.getD k.toNat (.i 0) = x := ⟨_, rfl⟩
  have FA : ∀ i : Int, 0 ≤ i → i < (a3d a x).length → e27 es k i := fun i p q => b01 A p (by rw [ha, hxx]; exact q)
  have Af := A.f
  have At' := A.t
  rw [ha, hxx] at Af At' g1 g2 g3
  obtain ⟨nlf, e18⟩ := c4d (N := N) hN Af At' (kX x == 3)
  have e18' : c1K N tu.2.2.2.2.1 tu.2.2.2.2.2.2.1 ((x.cell 0).toI == 3) = some (nlf, a3d a x) := by rw [g2, g3]; exact e18
  have e19 := e8s (N := N) hN (show (a3d a x).length ≤ 100000 by have := e28 Af; omega) n
  simp only [a0P A.k0 A.k1, hxx, ha, e18', f22, f23, f27, getD_some, e19]
  cases hi : fIx n ((a3d a x).map fN) 0 with
  | none => exact ⟨_, _, rfl, trivial⟩
  | some i =>
   obtain ⟨i0, i1, _⟩ := c4j hi
   rw [List.length_map] at i1
   have F := FA i i0 (by omega)
   have hF : a0q a x i = (a3d a x).getD i.toNat (.i 0) := rfl
   simp only [getD_some, decide_eq_false (show ¬ i < 0 by omega), a0P i0 (show i < (a3d a x).length by omega), ← hF, f22, f23]
   unfold b67
   have hF2 : ((a0q a x i).cell 2).toI = fT (a0q a x i) := rfl
   have hF1 : ((a0q a x i).cell 1).toI = fS (a0q a x i) := rfl
   rw [hF2, hF1]
   have F0 := F.a0
   have F1 := F.a1
   have Fs := F.s
   have Ft := F.t
   have Fz := F.z
   rw [ha, hxx] at F0 F1 Fs Ft Fz
   cases ht : fT (a0q a x i) != t with
   | true => exact ⟨_, _, rfl, trivial⟩
   | false =>
    obtain ⟨nlv, e21⟩ := f1W (N := N) (vi := vi) (vt := vt) (vm := vm) (big := tu.2.1) hN Fs Fz Ft hl
    rw [g1] at e21
    simp only [f23, g1, e21, f27, getD_some, f22]
    obtain ⟨e, he⟩ : ∃ e, a6t (fS (a0q a x i)) (fT (a0q a x i)) vi vt vm (a.bg (sX x).toNat) = e := ⟨_, rfl⟩
    simp only [he]
    cases hc : e.1 != 0 with
    | true => exact ⟨_, _, rfl, trivial⟩
    | false =>
     simp only [f23]
     have he0 : e.1 = 0 := by simpa using hc
     obtain ⟨el, eb⟩ := b66 (vi := vi) (vt := vt) (vm := vm) (big := a.bg (sX x).toNat) Fs Fz Ft (by rw [he]; exact he0)
     rw [he] at el eb
     have hb : bX x ≠ [] := by
      intro h
      rw [h] at F1
      simp at F1
      omega
     obtain ⟨n1, us, zs, l1, l2, l3⟩ := e8r (N := N) hN hes A.l A.e A.k0 A.k1 A.d (by rw [hxx]; exact hb) N 0 true [] (by omega) A.k0 (by have := A.l; omega) (by simp) (fun _ => rfl) (by rw [show (0 : Int).toNat = 0 from rfl, List.take_zero]; trivial)
     rw [hxx] at l1
     have l1' := l1
     have hul := All2.length l2
     rw [List.length_take] at hul
     have hzl := All2.length l3
     rw [List.length_drop] at hzl
     have hus : us.length = k.toNat := by have := A.k1; have := A.k0; omega
     have ho : Ce.off14 (a3d a x) i = ((a0q a x i).cell 3).toI := by unfold Ce.off14; rw [f1Y]; rfl
     have hc43 : Ce.c43 k (a3d a x) i k.toNat (us ++ Ce.dEnt x n1 [] true [] :: zs) false (bX x) = true := by
      unfold Ce.c43
      rw [ho, decide_eq_true (show k = (k.toNat : Int) by have := A.k0; omega), a0P i0 (by omega), decide_eq_true F0, decide_eq_true (show ((a0q a x i).cell 3).toI.toNat < (bX x).length by omega), decide_eq_true (show k.toNat < (us ++ Ce.dEnt x n1 [] true [] :: zs).length by simp only [List.length_append, List.length_cons]; omega)]
      rfl
     simp only [l1, f22, f27, getD_some, hc43]
     have hbs : Ce.bs' (a3d a x) i e.2 (bX x) = (bX x).take ((a0q a x i).cell 3).toI.toNat ++ e.2 ++ (bX x).drop (((a0q a x i).cell 3).toI + fS (a0q a x i)).toNat := by
      unfold Ce.bs'
      rw [ho, List.take_of_length_le (show e.2.length ≤ (bX x).length - ((a0q a x i).cell 3).toI.toNat by omega), show ((a0q a x i).cell 3).toI.toNat + e.2.length = (((a0q a x i).cell 3).toI + fS (a0q a x i)).toNat by omega]
     have hxs : Ce.xs' (a3d a x) i e.2 k.toNat (us ++ Ce.dEnt x n1 [] true [] :: zs) (bX x) = us ++ (Ce.dEnt x n1 [] true []).put 4 (.l false (Ce.bs' (a3d a x) i e.2 (bX x))) :: zs := by
      unfold Ce.xs'
      rw [← hus, f26, List.getElem?_append_right (Nat.le_refl _), Nat.sub_self, List.getElem?_cons_zero, Option.getD_some, List.set_append_right _ _ (Nat.le_refl _), Nat.sub_self]
      rfl
     have hdx : dX x = [] := by
      have hE := a2E (a51 (i := k.toNat) OkA.start OkT.start A.e (by have := A.k1; have := A.k0; omega)).2.2
      have := (hE.n (by have := A.d; exact this)).2
      rw [hxx] at this
      exact List.length_eq_zero_iff.1 this
     have hq : EqE (b3L x ((a0q a x i).cell 3).toI (fS (a0q a x i)) e.2) ((Ce.dEnt x n1 [] true []).put 4 (.l false (Ce.bs' (a3d a x) i e.2 (bX x)))) := by
      refine ⟨rfl, rfl, rfl, ?_, ?_⟩
      ·show (dX x).map b33 = ([] : List D).map b33
       rw [hdx]
      ·show (bX x).take ((a0q a x i).cell 3).toI.toNat ++ e.2 ++ (bX x).drop (((a0q a x i).cell 3).toI + fS (a0q a x i)).toNat = Ce.bs' (a3d a x) i e.2 (bX x)
       rw [hbs]
     have hall : All2 EqE (es.set k.toNat (b3L x ((a0q a x i).cell 3).toI (fS (a0q a x i)) e.2)) (Ce.xs' (a3d a x) i e.2 k.toNat (us ++ Ce.dEnt x n1 [] true [] :: zs) (bX x)) := by
      rw [hxs, b3h (by have := A.k1; have := A.k0; omega)]
      exact l2.append ⟨hq, l3⟩
     have hnx : a3x (b3L x ((a0q a x i).cell 3).toI (fS (a0q a x i)) e.2) := c2l (by rw [← hxx]; exact A.x) F0 F1 (by omega) eb el
     have hsd := b68 hed hnx k.toNat
     have hcf := (a4g (N := N) hN (a7X hall hsd)).1
     rw [← All2.fileE hall] at hcf
     simp only [hcf, f22, f27, getD_some]
     cases hfe : fileE (es.set k.toNat (b3L x ((a0q a x i).cell 3).toI (fS (a0q a x i)) e.2)) != 0 with
     | true => exact ⟨_, _, rfl, trivial⟩
     | false => exact ⟨_, _, rfl, hall⟩
end Go.Proofs.Ytfogaejiehebeaa

namespace Go.Proofs.Ytfogaejiehebeaa
open Go Go.AM
set_option maxRecDepth 100000
set_option maxHeartbeats 4000000
set_option linter.unusedVariables false
variable {N : Nat}
theorem c4k {l : List D} {w : Int} (h0 : 0 ≤ w) (h1 : w < l.length) : szL (l.take (w + 1).toNat) = szL (l.take w.toNat) + fS (l.getD w.toNat (.i 0)) := by
 have hap : ∀ (xs : List D) (y : D), szL (xs ++ [y]) = szL xs + fS y := by
  intro xs y
  induction xs with
  | nil => simp [szL]
  | cons z zs ih => simp only [List.cons_append, szL, ih]; omega
 have hw : (w + 1).toNat = w.toNat + 1 := by omega
 have hlt : w.toNat < l.length := by omega
 rw [hw, List.take_succ_eq_append_getElem hlt, hap, f26, f3c hlt, Option.getD_some]
theorem b3i {l : List D} (h : ∀ f ∈ l, 0 ≤ fS f ∧ fS f ≤ 255) : ∀ (n : Nat), 0 ≤ szL (l.take n) ∧ szL (l.take n) ≤ 255 * l.length := by
 intro n
 obtain ⟨h1, h2⟩ := a3b (fs := l.take n) (fun f hf => h f (List.mem_of_mem_take hf))
 refine ⟨h1, Int.le_trans h2 ?_⟩
 have : (l.take n).length ≤ l.length := by rw [List.length_take]; omega
 omega
theorem e29 (hN : maxLen < N) {es : List D} (hes : ∀ x ∈ es, c62 x) (k n t vi : Int) {vt : List UInt8} (vm : Bool) (hl : vt.length ≤ maxLen) :
  ∃ nl out, e8t N es k n t vi vt vm = some (nl, out, (b91 es k n t vi vt vm).1) ∧ All2 EqE (b91 es k n t vi vt vm).2 out := by
 have hmx : maxLen = 9223372036854775807 := rfl
 have hed : ∀ x ∈ es, a3x x := fun x hx => (hes x hx).entD
 unfold e8t e8u b91
 rw [e8n hN hed]
 simp only [a0s, f27, f22, getD_some]
 cases hd : a2q es k != 0 with
 | true => exact ⟨_, _, rfl, trivial⟩
 | false =>
  have hz : a2q es k = 0 := by simpa using hd
  have A := d20 hed hz
  obtain ⟨z1, _, _, _⟩ := b65 hz
  have hx : c62 (es.getD k.toNat (.i 0)) := hes _ (a0S (fs := es) A.k0 A.k1)
  obtain ⟨b, b1, ds, p1, p2⟩ := c63 (N := N) hN hed z1
  obtain ⟨nlf, hdf⟩ := (e8m (i := k.toNat) p2 (by have := A.k0; have := A.k1; omega)).2 A.d
  have hlen := p2.len
  obtain ⟨a, ha⟩ : ∃ a, abN Ab.start es k.toNat = a := ⟨_, rfl⟩
  obtain ⟨x, hxx⟩ : ∃ x, es.getD k.toNat (.i 0) = x := ⟨_, rfl⟩
  have FA : ∀ i : Int, 0 ≤ i → i < (a3d a x).length → e27 es k i := fun i p q => b01 A p (by rw [ha, hxx]; exact q)
  have Af := A.f
  rw [ha, hxx] at Af hdf
  obtain ⟨nl24, e24⟩ := c36 (N := N) hN Af (kX x == 3)
  have e24' : b9J N (a.fs (sX x).toNat) ((x.cell 0).toI == 3) = some (nl24, flds (kX x == 3) (a.fs (sX x).toNat)) := e24
  obtain ⟨r1, r2, r3⟩ := b90 (fs := a.fs (sX x).toNat) (t := kX x == 3) (a := 0)
  obtain ⟨lB, hB⟩ : ∃ lB, flds (kX x == 3) (a.fs (sX x).toNat) = lB := ⟨_, rfl⟩
  have hBok := (Af.flds (kX x == 3))
  rw [hB] at r1 r2 r3 e24' hBok
  have hA : a1m (kX x == 3) 0 (a.fs (sX x).toNat) = a3d a x := rfl
  rw [hA] at r1 r2 r3
  have hBl := hBok.len
  -- the loop
  have loop : ∀ (m : Nat) (w : Int), 0 ≤ w → w ≤ lB.length → (lB.length - w).toNat < m → ∃ r, b3j N k lB lB.length es n t vi vt vm (a.bg (sX x).toNat) (kX x) (sX x) (oX x) (x.cell 3).isNil (dX x) (bX x) m (szL (lB.take w.toNat)) w (fun p => some (Sum.inl p)) (fun p => some (Sum.inr p)) = some r ∧
    (match fIx n ((lB.map fN).drop w.toNat) w with
     | none => r = .inr ()
     | some i => ∃ nl out, r = .inl ((b67 es k x ((a0q a x i).cell 3).toI (fS (a0q a x i)) (fT (a0q a x i)) t vi vt vm (a.bg (sX x).toNat)).1, nl, out) ∧ All2 EqE (b67 es k x ((a0q a x i).cell 3).toI (fS (a0q a x i)) (fT (a0q a x i)) t vi vt vm (a.bg (sX x).toNat)).2 out) := by
   intro m
   induction m with
   | zero => intro w _ _ h; omega
   | succ m ih =>
    intro w h0 h1 hm
    unfold b3j b69
    by_cases hw : w < lB.length
    ·have hbd := b3i hBok.size w.toNat
     have hbd1 := b3i hBok.size (w + 1).toNat
     have hst := c4k h0 hw
     simp only [decide_eq_true hw, a0P h0 hw, b3f h0 hw, f22, a0s, a0Y (x := w + 1) (by omega) (by omega), fIx]
     cases hf : fN (lB.getD w.toNat (.i 0)) == n with
     | false =>
      have hf' : (((lB.getD w.toNat (.i 0)).cell 0).toI != n) = true := by
       have : (((lB.getD w.toNat (.i 0)).cell 0).toI == n) = false := hf
       simp only [bne, this, Bool.not_false]
      have hat : IntKind.wrap .i64 (szL (lB.take w.toNat) + ((lB.getD w.toNat (.i 0)).cell 1).toI) = szL (lB.take (w + 1).toNat) := by
       rw [show ((lB.getD w.toNat (.i 0)).cell 1).toI = fS (lB.getD w.toNat (.i 0)) from rfl, ← hst, a0Y (by omega) (by omega)]
      simp only [hf', f22, f23, hat]
      exact ih (w + 1) (by omega) (by omega) (by omega)
     | true =>
      have hf' : (((lB.getD w.toNat (.i 0)).cell 0).toI != n) = false := by
       have : (((lB.getD w.toNat (.i 0)).cell 0).toI == n) = true := hf
       simp only [bne, this, Bool.not_true]
      obtain ⟨q1, q2, q3⟩ := r3 w.toNat (by omega)
      have F := FA w h0 (by omega)
      have F0 := F.a0
      have F1 := F.a1
      have Fs := F.s
      have Ft := F.t
      have Fz := F.z
      rw [ha, hxx] at F0 F1 Fs Ft Fz
      have hF : (a3d a x).getD w.toNat (.i 0) = a0q a x w := rfl
      rw [hF] at q1 q2 q3
      have hs1 : ((lB.getD w.toNat (.i 0)).cell 1).toI = fS (a0q a x w) := q1.symm
      have hs2 : ((lB.getD w.toNat (.i 0)).cell 2).toI = fT (a0q a x w) := q2.symm
      have hs3 : szL (lB.take w.toNat) = ((a0q a x w).cell 3).toI := by omega
      simp only [hf', f22, f23, hs1, hs2, hs3]
      unfold b67
      cases ht : fT (a0q a x w) != t with
      | true => exact ⟨_, rfl, _, _, rfl, trivial⟩
      | false =>
       obtain ⟨nlv, e25⟩ := f1X (N := N) (vi := vi) (vt := vt) (vm := vm) (big := a.bg (sX x).toNat) hN Fs Fz Ft hl
       simp only [f23, e25, f27, getD_some, f22]
       obtain ⟨e, he⟩ : ∃ e, a6t (fS (a0q a x w)) (fT (a0q a x w)) vi vt vm (a.bg (sX x).toNat) = e := ⟨_, rfl⟩
       simp only [he]
       cases hc : e.1 != 0 with
       | true => exact ⟨_, rfl, _, _, rfl, trivial⟩
       | false =>
        have he0 : e.1 = 0 := by simpa using hc
        obtain ⟨el, eb⟩ := b66 (vi := vi) (vt := vt) (vm := vm) (big := a.bg (sX x).toNat) Fs Fz Ft (by rw [he]; exact he0)
        rw [he] at el eb
        have hxl : (bX x).length ≤ maxLen := by have := A.x.b; rw [hxx] at this; exact this
        have hxo : (bX x).length ≤ 65025 := by
         obtain ⟨oa, _, oe⟩ := a51 (i := k.toNat) OkA.start OkT.start A.e (by have := A.k1; have := A.k0; omega)
         have := (d2K (oa _) oe).2.2.2.2
         rw [hxx] at this; exact this
        have t1 : (((bX x).take ((a0q a x w).cell 3).toI.toNat).drop 0).length = ((a0q a x w).cell 3).toI.toNat := by simp; omega
        have t2 : ((bX x).take ((bX x).length : Int).toNat).drop (((a0q a x w).cell 3).toI + fS (a0q a x w)).toNat = (bX x).drop (((a0q a x w).cell 3).toI + fS (a0q a x w)).toNat := by rw [Int.toNat_natCast, List.take_length]
        have t3 : ((bX x).drop (((a0q a x w).cell 3).toI + fS (a0q a x w)).toNat).length = (bX x).length - (((a0q a x w).cell 3).toI + fS (a0q a x w)).toNat := List.length_drop
        have w1 : IntKind.wrap .i64 (((a0q a x w).cell 3).toI + fS (a0q a x w)) = ((a0q a x w).cell 3).toI + fS (a0q a x w) := a0Y (by omega) (by omega)
        have c1 : ((decide (0 ≤ ((a0q a x w).cell 3).toI)) && (decide (((a0q a x w).cell 3).toI ≤ ((bX x).length : Int)))) = true := by
         rw [decide_eq_true F0, decide_eq_true (show ((a0q a x w).cell 3).toI ≤ ((bX x).length : Int) by omega)]; rfl
        have c2 : (((decide (0 ≤ ((a0q a x w).cell 3).toI + fS (a0q a x w))) && (decide (((a0q a x w).cell 3).toI + fS (a0q a x w) ≤ ((bX x).length : Int)))) && (decide (((bX x).length : Int) ≤ ((bX x).length : Int)))) = true := by
         rw [decide_eq_true (show 0 ≤ ((a0q a x w).cell 3).toI + fS (a0q a x w) by omega), decide_eq_true F1, decide_eq_true (Int.le_refl _)]; rfl
        have m1 : (decide ((0 + (((bX x).take ((a0q a x w).cell 3).toI.toNat).drop 0).length) * 1 ≤ a1j) && decide ((0 + (((bX x).take ((a0q a x w).cell 3).toI.toNat).drop 0).length) ≤ a0i)) = true := a81 (by omega)
        have m2 : (decide (((((bX x).take ((a0q a x w).cell 3).toI.toNat).drop 0).length + e.2.length) * 1 ≤ a1j) && decide (((((bX x).take ((a0q a x w).cell 3).toI.toNat).drop 0).length + e.2.length) ≤ a0i)) = true := a81 (by omega)
        have m3 : (decide (((((bX x).take ((a0q a x w).cell 3).toI.toNat).drop 0 ++ e.2).length + ((bX x).drop (((a0q a x w).cell 3).toI + fS (a0q a x w)).toNat).length) * 1 ≤ a1j) && decide (((((bX x).take ((a0q a x w).cell 3).toI.toNat).drop 0 ++ e.2).length + ((bX x).drop (((a0q a x w).cell 3).toI + fS (a0q a x w)).toNat).length) ≤ a0i)) = true := a81 (by rw [List.length_append]; omega)
        simp only [f23, c1, m1, m2, w1, c2, t2, m3, f22]
        generalize hnl : (((bX x).drop (((a0q a x w).cell 3).toI + fS (a0q a x w)).toNat).isEmpty && (e.2.isEmpty && ((((bX x).take ((a0q a x w).cell 3).toI.toNat).drop 0).isEmpty && false))) = nly
        have hq : EqE (b3L x ((a0q a x w).cell 3).toI (fS (a0q a x w)) e.2) (.a [(.i (kX x)), (.i (sX x)), (.i (oX x)), (.l (x.cell 3).isNil (dX x)), (.l nly ((bX x).take ((a0q a x w).cell 3).toI.toNat |>.drop 0 |> (· ++ e.2) |> (· ++ (bX x).drop (((a0q a x w).cell 3).toI + fS (a0q a x w)).toNat)))]) := by
         refine ⟨rfl, rfl, rfl, rfl, ?_⟩
         show _ = ((bX x).take ((a0q a x w).cell 3).toI.toNat).drop 0 ++ e.2 ++ (bX x).drop (((a0q a x w).cell 3).toI + fS (a0q a x w)).toNat
         rw [List.drop_zero]
         rfl
        have r72 : (decide ((0 + es.length) * 72 ≤ a1j) && decide ((0 + es.length) ≤ a0i)) = true := c4i (by have := A.l; omega)
        have e26 : ∃ b26, d21 N es k (kX x) (sX x) (oX x) (x.cell 3).isNil (dX x) nly (((bX x).take ((a0q a x w).cell 3).toI.toNat).drop 0 ++ e.2 ++ (bX x).drop (((a0q a x w).cell 3).toI + fS (a0q a x w)).toNat) = some (b26, es.set k.toNat (.a [(.i (kX x)), (.i (sX x)), (.i (oX x)), (.l (x.cell 3).isNil (dX x)), (.l nly (((bX x).take ((a0q a x w).cell 3).toI.toNat).drop 0 ++ e.2 ++ (bX x).drop (((a0q a x w).cell 3).toI + fS (a0q a x w)).toNat))])) := by
         unfold d21 d22
         rw [r72, a0P A.k0 A.k1, decide_eq_true (show k.toNat < es.length by have := A.k0; have := A.k1; omega)]
         exact ⟨_, rfl⟩
        obtain ⟨b26, e26⟩ := e26
        have hall : All2 EqE (es.set k.toNat (b3L x ((a0q a x w).cell 3).toI (fS (a0q a x w)) e.2)) (es.set k.toNat (.a [(.i (kX x)), (.i (sX x)), (.i (oX x)), (.l (x.cell 3).isNil (dX x)), (.l nly (((bX x).take ((a0q a x w).cell 3).toI.toNat).drop 0 ++ e.2 ++ (bX x).drop (((a0q a x w).cell 3).toI + fS (a0q a x w)).toNat))])) := by
         rw [b3h (by have := A.k1; have := A.k0; omega), b3h (by have := A.k1; have := A.k0; omega)]
         exact (b3g _).append ⟨hq, b3g _⟩
        have hnx : a3x (b3L x ((a0q a x w).cell 3).toI (fS (a0q a x w)) e.2) := c2l (by rw [← hxx]; exact A.x) F0 F1 (by omega) eb el
        have hsd := b68 hed hnx k.toNat
        have hcf := (a4g (N := N) hN (a7X hall hsd)).2
        rw [← All2.fileE hall] at hcf
        simp only [e26, hcf, f27, getD_some, f22]
        cases hfe : fileE (es.set k.toNat (b3L x ((a0q a x w).cell 3).toI (fS (a0q a x w)) e.2)) != 0 with
        | true => exact ⟨_, rfl, _, _, rfl, trivial⟩
        | false => exact ⟨_, rfl, _, _, rfl, hall⟩
    ·have : w = lB.length := by omega
     have hdr : (lB.map fN).drop w.toNat = [] := List.drop_eq_nil_of_le (by rw [List.length_map]; omega)
     rw [decide_eq_false hw, hdr]
     exact ⟨_, rfl, rfl⟩
  obtain ⟨r, l1, l2⟩ := loop N 0 (by omega) (by omega) (by omega)
  have l1' : d23 N k lB (lB.length : Int) es n t vi vt vm (a.bg (sX x).toNat) (x.cell 0).toI (x.cell 1).toI (x.cell 2).toI (x.cell 3).isNil (x.cell 3).items (x.cell 4).items 0 0 = some r := l1
  have d2 : (([D.a [.b (a.bg (sX x).toNat), .i (a.gl (sX x).toNat), .l nlf (a.fs (sX x).toNat)]] : List D).getD 0 (.i 0)) = D.a [.b (a.bg (sX x).toNat), .i (a.gl (sX x).toNat), .l nlf (a.fs (sX x).toNat)] := rfl
  have d3 : ((D.a [.b (a.bg (sX x).toNat), .i (a.gl (sX x).toNat), .l nlf (a.fs (sX x).toNat)]).cell 2).items = a.fs (sX x).toNat := rfl
  have d4 : ((D.a [.b (a.bg (sX x).toNat), .i (a.gl (sX x).toNat), .l nlf (a.fs (sX x).toNat)]).cell 0).toB = a.bg (sX x).toNat := rfl
  simp only [p1, f27, getD_some, f22, f23, a0P A.k0 (show k < ds.length by have := A.k1; omega), hdf, a0P (show (0 : Int) ≤ 0 by omega) (show (0 : Int) < ([D.a [.b (a.bg (sX x).toNat), .i (a.gl (sX x).toNat), .l nlf (a.fs (sX x).toNat)]] : List D).length by simp), a0P A.k0 A.k1, hxx, ha, d2, d3, d4, e24', l1']
  rw [show (0 : Int).toNat = 0 from rfl, List.drop_zero, ← r2] at l2
  cases hi : fIx n ((a3d a x).map fN) 0 with
  | none =>
   rw [hi] at l2
   subst l2
   exact ⟨_, _, rfl, trivial⟩
  | some i =>
   rw [hi] at l2
   obtain ⟨nl, out, rfl, o2⟩ := l2
   exact ⟨_, _, rfl, o2⟩
end Go.Proofs.Ytfogaejiehebeaa

namespace Go.Proofs.Ytfogaejiehebeaa
open Go Go.AM
set_option maxRecDepth 100000
set_option maxHeartbeats 4000000
set_option linter.unusedVariables false
section
variable {N : Nat}
theorem d24 : d25 18446744073709551616 = some true := by kernel_rfl
theorem b3k {data : List D} {big : Bool} : ∀ {fs : List D} {t : Bool} {a : Int}, (b9W data big t a fs).length ≤ fs.length
 | [], _, _ => Nat.le_refl _
 | f :: r, t, a => by
  simp only [b9W]
  cases t && isT f with
  | true => have := b3k (data := data) (big := big) (fs := r) (t := false) (a := a); simp only [f22, List.length_cons]; omega
  | false => have := b3k (data := data) (big := big) (fs := r) (t := t) (a := a + fS f); simp only [f23, List.length_cons]; omega
theorem d26 {es : List D} (hed : ∀ x ∈ es, a3x x) (k : Int) : (a7W es k).length ≤ 255 := by
 unfold a7W
 cases hd : a2q es k != 0 with
 | true => exact Nat.zero_le _
 | false =>
  have hz : a2q es k = 0 := by simpa using hd
  have A := d20 hed hz
  exact Nat.le_trans b3k A.f.len
theorem d27 {es : List D} (hed : ∀ x ∈ es, a3x x) (k : Int) (x : D) (at_ s ft t vi : Int) (vt : List UInt8) (vm big : Bool) (hx : (a6t s ft vi vt vm big).1 = 0 → a3x (b3L x at_ s (a6t s ft vi vt vm big).2)) : (∀ y ∈ (b67 es k x at_ s ft t vi vt vm big).2, a3x y) ∧ (b67 es k x at_ s ft t vi vt vm big).2.length ≤ es.length := by
 unfold b67
 cases ft != t with
 | true => exact ⟨fun y hy => by simp at hy, Nat.zero_le _⟩
 | false =>
  simp only [f23]
  cases he : (a6t s ft vi vt vm big).1 != 0 with
  | true => exact ⟨fun y hy => by simp at hy, Nat.zero_le _⟩
  | false =>
   simp only [f23]
   cases fileE (es.set k.toNat (b3L x at_ s (a6t s ft vi vt vm big).2)) != 0 with
   | true => exact ⟨fun y hy => by simp at hy, Nat.zero_le _⟩
   | false => exact ⟨b68 hed (hx (by simpa using he)) _, by simp⟩
theorem d8p {es : List D} (hed : ∀ x ∈ es, a3x x) (k n t vi : Int) (vt : List UInt8) (vm : Bool) : (∀ y ∈ (b91 es k n t vi vt vm).2, a3x y) ∧ (b91 es k n t vi vt vm).2.length ≤ es.length := by
 unfold b91
 cases hd : a2q es k != 0 with
 | true => exact ⟨fun y hy => by simp at hy, Nat.zero_le _⟩
 | false =>
  have hz : a2q es k = 0 := by simpa using hd
  have A := d20 hed hz
  simp only [f23]
  cases hi : fIx n ((a3d (abN Ab.start es k.toNat) (es.getD k.toNat (.i 0))).map fN) 0 with
  | none => exact ⟨fun y hy => by simp at hy, Nat.zero_le _⟩
  | some i =>
   obtain ⟨i0, i1, _⟩ := c4j hi
   rw [List.length_map] at i1
   have F := b01 A i0 (by omega)
   refine d27 hed k _ _ _ _ t vi vt vm _ fun he => ?_
   obtain ⟨el, eb⟩ := b66 (vi := vi) (vt := vt) (vm := vm) F.s F.z F.t he
   have := F.s
   exact c2l A.x F.a0 F.a1 (by omega) eb el
end
theorem e3a : a0f Try.prog 26 = [.int .i64, .int .i64, .int .i64, .str, .bool] := by kernel_rfl
theorem f1Z {ds : List D} (h : b2k Try.prog 6 26 ds) : ∃ n t vi vt vm, ds = [.i n, .i t, .i vi, .s vt, .b vm] ∧ vt.length ≤ maxLen ∧ c7K n ∧ c7K t ∧ c7K vi := by
 unfold b2k at h
 rw [e3a] at h
 obtain ⟨_, _, rfl, h0, h⟩ := a0O h
 obtain ⟨_, _, rfl, h1, h⟩ := a0O h
 obtain ⟨_, _, rfl, h2, h⟩ := a0O h
 obtain ⟨_, _, rfl, h3, h⟩ := a0O h
 obtain ⟨_, _, rfl, h4, h⟩ := a0O h
 obtain rfl := a5h h
 obtain ⟨n, rfl, w0⟩ := a4R (m := 5) h0
 obtain ⟨t, rfl, w1⟩ := a4R (m := 5) h1
 obtain ⟨vi, rfl, w2⟩ := a4R (m := 5) h2
 obtain ⟨vt, rfl, hv⟩ := e4W (m := 5) h3
 obtain ⟨vm, rfl⟩ := c8S (m := 5) h4
 exact ⟨n, t, vi, vt, vm, rfl, hv, d2L w0, d2L w1, d2L w2⟩
theorem Try.own : ownKnob Try.prog.godebug = none := by kernel_rfl
theorem Try.laidOut : laidOutB Try.prog = true := by kernel_rfl
theorem g0 : Try.prog.globalNamed "internal/bytealg.MaxLen" = some 0 := by kernel_rfl
theorem g1 : Try.prog.globalNamed "internal/strconv.uint64pow10" = none := by kernel_rfl
theorem g2 : Try.prog.globalNamed "strconv.ErrSyntax" = none := by kernel_rfl
theorem g3 : Try.prog.globalNamed "strconv.ErrRange" = none := by kernel_rfl
theorem giW {W : World} (hs : W.ShapedOpen Try.prog) {M : a0B} (hM : ∀ b o, ¬ M b o) : GI Try.prog M W := by
 intro x hx g hg
 refine ⟨hM g, ?_⟩
 simp only [d97, f3d, List.not_mem_nil, or_false] at hx
 rcases hx with rfl | rfl | rfl | rfl
 ·obtain rfl := Option.some.inj (g0.symm.trans hg)
  exact e04 (t := 3) (zero := #[.int .i64 0]) hs (of_decide_eq_true (by kernel_rfl)) (by kernel_rfl) rfl (by kernel_rfl) (by kernel_rfl) (by kernel_rfl)
 ·rw [g1] at hg; cases hg
 ·rw [g2] at hg; cases hg
 ·rw [g3] at hg; cases hg
end Go.Proofs.Ytfogaejiehebeaa

namespace Go.Proofs.Ytfogaejiehebeaa
open Go Go.AM
set_option maxRecDepth 100000
set_option maxHeartbeats 4000000
set_option linter.unusedVariables false
variable {N : Nat}
theorem e8v (n : Int) : (bt n 0).toI = n % 256 ∧ (bt n 1).toI = n / 256 % 256 ∧ (bt n 2).toI = n / 65536 % 256 ∧ (bt n 3).toI = n / 16777216 % 256 := by
 have e : ∀ k : Nat, (n.fdiv (2 ^ k)) = n / 2 ^ k := fun k => Int.fdiv_eq_ediv_of_nonneg _ (by exact Int.le_of_lt (Int.pow_pos (by decide)))
 have w0 : (min (IntKind.wrap .i64 (8 * 0)).toNat 64) = 0 := by decide
 have w1 : (min (IntKind.wrap .i64 (8 * 1)).toNat 64) = 8 := by decide
 have w2 : (min (IntKind.wrap .i64 (8 * 2)).toNat 64) = 16 := by decide
 have w3 : (min (IntKind.wrap .i64 (8 * 3)).toNat 64) = 24 := by decide
 unfold bt
 simp only [w0, w1, w2, w3, e, D.toI, IntKind.wrap_u8]
 refine ⟨?_, ?_, ?_, ?_⟩ <;> simp
theorem c4l {s n : Int} (h : Sz s) (big : Bool) : b3K (nbS s n big) big = n % pwV s := by
 obtain ⟨b0, b1, b2, b3⟩ := e8v n
 rcases h with rfl | rfl | rfl
 ·cases big <;>
  ·show 256 * 0 + (bt n 0).toI = n % 256
   omega
 ·cases big with
  | true =>
   show 256 * (256 * 0 + (bt n 1).toI) + (bt n 0).toI = n % 65536
   omega
  | false =>
   show 256 * (256 * 0 + (bt n 1).toI) + (bt n 0).toI = n % 65536
   omega
 ·cases big with
  | true =>
   show 256 * (256 * (256 * (256 * 0 + (bt n 3).toI) + (bt n 2).toI) + (bt n 1).toI) + (bt n 0).toI = n % 4294967296
   omega
  | false =>
   show 256 * (256 * (256 * (256 * 0 + (bt n 3).toI) + (bt n 2).toI) + (bt n 1).toI) + (bt n 0).toI = n % 4294967296
   omega
theorem b3l (l : List UInt8) : a9U (a0E l) = l := by
 unfold a9U a0E
 rw [List.map_map]
 conv => rhs; rw [← List.map_id l]
 apply List.map_congr_left
 intro c _
 simp [c4Q, D.toI]
theorem c2m (a b : List D) : a9U (a ++ b) = a9U a ++ a9U b := by unfold a9U; rw [List.map_append]
theorem b92 : ∀ (l : List UInt8) (n : Nat), Lib.indexByte l 0 = -1 → Lib.indexByte (l ++ List.replicate n 0) 0 = bif decide (n = 0) then -1 else (l.length : Int)
 | [], 0, _ => rfl
 | [], n + 1, _ => rfl
 | c :: l, n, h => by
  simp only [Lib.indexByte, List.cons_append, List.length_cons] at h ⊢
  have hg := Lib.indexByte_ge l 0
  by_cases h1 : (c == 0) = true
  ·rw [if_pos h1] at h; cases h
  ·rw [if_neg h1] at h ⊢
   by_cases h2 : (Lib.indexByte l 0 == -1) = true
   ·have h3 : Lib.indexByte l 0 = -1 := by simpa using h2
    rw [b92 l n h3]
    by_cases hn : n = 0
    ·subst hn; rfl
    ·rw [decide_eq_false hn]
     simp only [f23]
     rw [if_neg (by simp)]
     omega
   ·rw [if_neg h2] at h
    omega
theorem d28 {l : List UInt8} {n : Nat} (h : ¬ Lib.indexByte l 0 ≥ 0) : e22 (l ++ List.replicate n 0) = l := by
 have hg := Lib.indexByte_ge l 0
 have h1 : Lib.indexByte l 0 = -1 := by omega
 unfold e22
 rw [b92 l n h1]
 by_cases hn : n = 0
 ·subst hn; simp
 ·rw [decide_eq_false hn]
  simp only [f23]
  rw [decide_eq_true (show (l.length : Int) ≥ 0 by omega)]
  simp
theorem d29 (n : Nat) : e22 (List.replicate n 0) = [] := by
 have := d28 (l := []) (n := n) (by decide)
 simpa using this
theorem b46 (n : Nat) : a9U (List.replicate n (.i 0)) = List.replicate n 0 := by
 unfold a9U; rw [List.map_replicate]; rfl
def vN (s : Int) (sg : Bool) (n : Int) : Int × List UInt8 × Bool := bif n == a2F s sg then (0, [], true) else (bif sg && decide (n > a2F s true) then n - pwV s else n, [], false)
theorem d8q {s t : Int} {b : List D} {big : Bool} (n3 : (t == 3) = false) (n2 : (t == 2) = false) : d5y s t b big = vN s (t == 1) (b3K b big) := by
 unfold d5y
 rw [n3, n2]
 rfl
theorem d8r {s t vi : Int} {vt : List UInt8} {vm big : Bool} (hs : 1 ≤ s ∧ s ≤ 255) (hz : t ≤ 1 → s = 1 ∨ s = 2 ∨ s = 4) (h0 : 0 ≤ t ∧ t ≤ 3) (h : (a6t s t vi vt vm big).1 = 0) : d5y s t (a6t s t vi vt vm big).2 big = (vi, vt, vm) := by
 unfold a6t at h ⊢
 cases c1 : (bif t == 1 then true else t == 0) with
 | true =>
  have ht : Sz s := hz (by cases c2 : t == 1 <;> rw [c2] at c1 <;> simp at c1 c2 <;> omega)
  have n3 : (t == 3) = false := by cases c2 : t == 1 <;> rw [c2] at c1 <;> simp at c1 c2 ⊢ <;> omega
  have n2 : (t == 2) = false := by cases c2 : t == 1 <;> rw [c2] at c1 <;> simp at c1 c2 ⊢ <;> omega
  rw [c1] at h
  rw [d8q n3 n2]
  simp only [f22, f23] at h ⊢
  cases vm with
  | true =>
   simp only [f22] at h ⊢
   cases c3 : (bif vi != 0 then true else !(vt == [])) with
   | true => rw [c3] at h; exact absurd (show (2 : Int) = 0 from h) (by decide)
   | false =>
    have hvi : vi = 0 := by
     cases c4 : vi != 0 with
     | true => rw [c4] at c3; cases c3
     | false => simpa using c4
    have hvt : vt = [] := by
     rw [show (vi != 0) = false by rw [hvi]; rfl] at c3
     simpa using c3
    simp only [f23]
    have hm : a2F s (t == 1) % pwV s = a2F s (t == 1) := by rcases ht with rfl | rfl | rfl <;> cases t == 1 <;> rfl
    show vN s (t == 1) (b3K (nbS s (a2F s (t == 1)) big) big) = (vi, vt, true)
    rw [c4l ht, hm, hvi, hvt]
    unfold vN
    rw [show (a2F s (t == 1) == a2F s (t == 1)) = true from beq_self_eq_true _]
    rfl
  | false =>
   simp only [f23] at h ⊢
   cases c3 : !(vt == []) with
   | true => rw [c3] at h; exact absurd (show (2 : Int) = 0 from h) (by decide)
   | false =>
    rw [c3] at h
    simp only [f23] at h ⊢
    have hvt : vt = [] := by simpa using c3
    cases c4 : !inI vi (a9G s (t == 1)) (a2F s (t == 1) - 1) with
    | true => rw [c4] at h; exact absurd (show (9 : Int) = 0 from h) (by decide)
    | false =>
     show vN s (t == 1) (b3K (nbS s vi big) big) = (vi, vt, false)
     rw [c4l ht, hvt]
     have hin : a9G s (t == 1) ≤ vi ∧ vi ≤ a2F s (t == 1) - 1 := by
      unfold inI at c4; simpa using c4
     cases ht1 : t == 1 with
     | true =>
      rw [ht1] at hin
      rcases ht with rfl | rfl | rfl
      ·have l1 : -128 ≤ vi ∧ vi ≤ 126 := hin
       show (bif vi % 256 == 127 then _ else (bif true && decide (vi % 256 > 127) then vi % 256 - 256 else vi % 256, [], false)) = (vi, [], false)
       rw [show (vi % 256 == 127) = false from by simp; omega]
       by_cases hn : vi < 0
       ·rw [decide_eq_true (show vi % 256 > 127 by omega)]
        show (vi % 256 - 256, [], false) = (vi, [], false)
        rw [show vi % 256 - 256 = vi by omega]
       ·rw [decide_eq_false (show ¬ vi % 256 > 127 by omega)]
        show (vi % 256, [], false) = (vi, [], false)
        rw [show vi % 256 = vi by omega]
      ·have l1 : -32768 ≤ vi ∧ vi ≤ 32766 := hin
       show (bif vi % 65536 == 32767 then _ else (bif true && decide (vi % 65536 > 32767) then vi % 65536 - 65536 else vi % 65536, [], false)) = (vi, [], false)
       rw [show (vi % 65536 == 32767) = false from by simp; omega]
       by_cases hn : vi < 0
       ·rw [decide_eq_true (show vi % 65536 > 32767 by omega)]
        show (vi % 65536 - 65536, [], false) = (vi, [], false)
        rw [show vi % 65536 - 65536 = vi by omega]
       ·rw [decide_eq_false (show ¬ vi % 65536 > 32767 by omega)]
        show (vi % 65536, [], false) = (vi, [], false)
        rw [show vi % 65536 = vi by omega]
      ·have l1 : -2147483648 ≤ vi ∧ vi ≤ 2147483646 := hin
       show (bif vi % 4294967296 == 2147483647 then _ else (bif true && decide (vi % 4294967296 > 2147483647) then vi % 4294967296 - 4294967296 else vi % 4294967296, [], false)) = (vi, [], false)
       rw [show (vi % 4294967296 == 2147483647) = false from by simp; omega]
       by_cases hn : vi < 0
       ·rw [decide_eq_true (show vi % 4294967296 > 2147483647 by omega)]
        show (vi % 4294967296 - 4294967296, [], false) = (vi, [], false)
        rw [show vi % 4294967296 - 4294967296 = vi by omega]
       ·rw [decide_eq_false (show ¬ vi % 4294967296 > 2147483647 by omega)]
        show (vi % 4294967296, [], false) = (vi, [], false)
        rw [show vi % 4294967296 = vi by omega]
     | false =>
      rw [ht1] at hin
      rcases ht with rfl | rfl | rfl
      ·have l1 : 0 ≤ vi ∧ vi ≤ 254 := hin
       show (bif vi % 256 == 255 then _ else (vi % 256, [], false)) = (vi, [], false)
       rw [show (vi % 256 == 255) = false from by simp; omega, show vi % 256 = vi by omega]; rfl
      ·have l1 : 0 ≤ vi ∧ vi ≤ 65534 := hin
       show (bif vi % 65536 == 65535 then _ else (vi % 65536, [], false)) = (vi, [], false)
       rw [show (vi % 65536 == 65535) = false from by simp; omega, show vi % 65536 = vi by omega]; rfl
      ·have l1 : 0 ≤ vi ∧ vi ≤ 4294967294 := hin
       show (bif vi % 4294967296 == 4294967295 then _ else (vi % 4294967296, [], false)) = (vi, [], false)
       rw [show (vi % 4294967296 == 4294967295) = false from by simp; omega, show vi % 4294967296 = vi by omega]; rfl
 | false =>
  rw [c1] at h
  unfold d5y
  simp only [f23] at h ⊢
  cases c2 : t == 2 with
  | true =>
   have n3 : (t == 3) = false := by simp at c2 ⊢; omega
   rw [c2] at h
   simp only [f22, n3, f23] at h ⊢
   cases vm with
   | true =>
    simp only [f22] at h ⊢
    cases c3 : (bif vi != 0 then true else !(vt == [])) with
    | true => rw [c3] at h; exact absurd (show (2 : Int) = 0 from h) (by decide)
    | false =>
     have hvi : vi = 0 := by
      cases c4 : vi != 0 with
      | true => rw [c4] at c3; cases c3
      | false => simpa using c4
     have hvt : vt = [] := by
      rw [show (vi != 0) = false by rw [hvi]; rfl] at c3
      simpa using c3
     simp only [f23]
     rw [b46, d29, hvi, hvt]; rfl
   | false =>
    simp only [f23] at h ⊢
    cases c3 : (bif (bif vi != 0 then true else vt == []) then true else decide (Lib.indexByte vt 0 ≥ 0)) with
    | true => rw [c3] at h; exact absurd (show (2 : Int) = 0 from h) (by decide)
    | false =>
     rw [c3] at h
     have hvi : vi = 0 := by
      cases c4 : vi != 0 with
      | true => rw [c4] at c3; cases c3
      | false => simpa using c4
     rw [show (vi != 0) = false by rw [hvi]; rfl] at c3
     have hvt : (vt == []) = false := by
      cases c4 : vt == [] with
      | true => rw [c4] at c3; cases c3
      | false => rfl
     rw [hvt] at c3
     have hidx : ¬ Lib.indexByte vt 0 ≥ 0 := by simpa using c3
     simp only [f23] at h ⊢
     cases c4 : decide ((vt.length : Int) > s) with
     | true => rw [c4] at h; exact absurd (show (3 : Int) = 0 from h) (by decide)
     | false =>
      simp only [f23]
      rw [c2m, b3l, b46, d28 hidx, hvi, hvt]
  | false =>
   have n3 : (t == 3) = true := by
    have c2' : t ≠ 2 := by simpa using c2
    cases c5 : t == 1 with
    | true => rw [c5] at c1; cases c1
    | false =>
     rw [c5] at c1
     have n1' : t ≠ 1 := by simpa using c5
     have n0' : t ≠ 0 := by simpa using c1
     simp; omega
   rw [c2] at h
   simp only [f22, n3, f23] at h ⊢
   cases vm with
   | true => exact absurd (show (2 : Int) = 0 from h) (by decide)
   | false =>
    simp only [f23] at h ⊢
    cases c3 : (bif vi != 0 then true else (vt.length : Int) != s) with
    | true => rw [c3] at h; exact absurd (show (2 : Int) = 0 from h) (by decide)
    | false =>
     have hvi : vi = 0 := by
      cases c4 : vi != 0 with
      | true => rw [c4] at c3; cases c3
      | false => simpa using c4
     simp only [f23]
     rw [b3l, hvi]
end Go.Proofs.Ytfogaejiehebeaa

namespace Go.Proofs.Ytfogaejiehebeaa
open Go Go.AM
set_option maxRecDepth 100000
set_option maxHeartbeats 4000000
set_option linter.unusedVariables false
variable {N : Nat}
def e4C (l : List Int) : Prop := ∀ i j : Nat, i < l.length → j < l.length → l.getD i 0 = l.getD j 0 → i = j
theorem d3a {g : Int} {fs : List D} (h : c7J g fs = 0) : e4C (fs.map fN) := by
 unfold c7J at h
 cases h1 : inI g 0 65535 with
 | false => rw [h1] at h; exact absurd (show (9 : Int) = 0 from h) (by decide)
 | true =>
  rw [h1] at h
  cases h2 : decide ((fs.length : Int) > 30) with
  | true => rw [h2] at h; exact absurd (show (3 : Int) = 0 from h) (by decide)
  | false =>
   rw [h2] at h
   simp only [Bool.not_true, f23] at h
   have key : ∀ i j : Nat, i < j → j < fs.length → (fs.map fN).getD i 0 ≠ (fs.map fN).getD j 0 := by
    intro i j hij hj he
    have := a4f h j hj
    rw [Int.zero_add] at this
    unfold c7I at this
    rw [Int.toNat_natCast] at this
    have hh : c7H (fN (fs.getD j (.i 0))) (fs.take j) = true := by
     unfold c7H
     rw [List.any_eq_true]
     refine ⟨fs.getD i (.i 0), ?_, ?_⟩
     ·rw [f26, f3c (by omega)]
      exact List.mem_take_iff_getElem.2 ⟨i, by omega, rfl⟩
     ·have e1 : (fs.map fN).getD i 0 = fN (fs.getD i (.i 0)) := by simp [f26, f3c (show i < fs.length by omega)]
      have e2 : (fs.map fN).getD j 0 = fN (fs.getD j (.i 0)) := by simp [f26, f3c hj]
      rw [e1, e2] at he
      show (fN (fs.getD i (.i 0)) == fN (fs.getD j (.i 0))) = true
      rw [he]
      exact beq_self_eq_true _
    rw [hh] at this
    revert this
    cases !(inI (fN (fs.getD j (.i 0))) 0 255) || !(inI (fS (fs.getD j (.i 0))) 1 255) with
    | true => exact fun h => absurd (show (9 : Int) = 0 from h) (by decide)
    | false =>
     cases !inI (fT (fs.getD j (.i 0))) 0 3 with
     | true => exact fun h => absurd (show (7 : Int) = 0 from h) (by decide)
     | false =>
      cases decide (fT (fs.getD j (.i 0)) ≤ 1) && (fS (fs.getD j (.i 0)) != 1) && (fS (fs.getD j (.i 0)) != 2) && (fS (fs.getD j (.i 0)) != 4) with
      | true => exact fun h => absurd (show (2 : Int) = 0 from h) (by decide)
      | false => exact fun h => absurd (show (5 : Int) = 0 from h) (by decide)
   intro i j hi hj he
   rw [List.length_map] at hi hj
   by_cases hij : i < j
   ·exact absurd he (key i j hij hj)
   ·by_cases hji : j < i
    ·exact absurd he.symm (key j i hji hi)
    ·omega
def OkU (a : Ab) : Prop := ∀ j, a.kn j = true → e4C ((a.fs j).map fN)
theorem OkU.step {a : Ab} (h : OkU a) {x : D} (hx : c2f a x = 0) : OkU (a2a a x) := by
 unfold a2a b6Z
 cases hk : kX x == 1 with
 | true =>
  have hE := a2E hx
  have hf := d3a (hE.d (by simpa using hk)).2
  intro j hj
  simp only [f22, upA] at hj ⊢
  by_cases e : j = (sX x).toNat
  ·simp only [if_pos e]; exact hf
  ·simp only [if_neg e] at hj ⊢; exact h j hj
 | false => exact h
theorem OkU.start : OkU Ab.start := fun j hj => by simp [Ab.start] at hj
theorem c4m : ∀ {es : List D} {a : Ab} {i : Nat}, OkU a → a3c a es = 0 → i < es.length → OkU (abN a es i)
 | x :: r, a, 0, hu, _, _ => hu
 | x :: r, a, i + 1, hu, h, hi => by
  obtain ⟨h1, h2⟩ := a7U h
  exact c4m (es := r) (a := a2a a x) (hu.step h1) h2 (by simpa using hi)
 | [], _, _, _, _, hi => by simp at hi
theorem d3b {l : List Int} : e4C l ↔ l.Pairwise (· ≠ ·) := by
 rw [List.pairwise_iff_getElem]
 constructor
 ·intro hu i j hi hj hij he
  have := hu i j hi hj (by rw [f26, f26, f3c hi, f3c hj, he])
  omega
 ·intro hp i j hi hj he
  rw [f26, f26, f3c hi, f3c hj] at he
  have he : l[i] = l[j] := he
  by_cases hij : i < j
  ·exact absurd he (hp i j hi hj hij)
  ·by_cases hji : j < i
   ·exact absurd he.symm (hp j i hj hi hji)
   ·omega
theorem b3m {l l' : List Int} (h : l'.Sublist l) (hu : e4C l) : e4C l' := d3b.2 (List.Pairwise.sublist h (d3b.1 hu))
theorem a82 : ∀ {fs : List D} {t : Bool} {a : Int}, ((a1m t a fs).map fN).Sublist (fs.map fN)
 | [], _, _ => List.Sublist.refl _
 | f :: r, t, a => by
  simp only [a1m, List.map_cons]
  cases t && isT f with
  | true => exact List.Sublist.cons _ (a82 (fs := r))
  | false => exact List.Sublist.cons_cons _ (a82 (fs := r))
theorem d3c : ∀ {i : Nat} {xs ys : List D} {a : Ab}, All2 EqE (xs.take i) (ys.take i) → abN a xs i = abN a ys i
 | 0, _, _, _, _ => by unfold abN; rfl
 | i + 1, [], [], a, _ => rfl
 | i + 1, x :: xs, y :: ys, a, h => by
  obtain ⟨h1, h2⟩ := (show EqE x y ∧ All2 EqE (xs.take i) (ys.take i) from h)
  show abN (a2a a x) xs i = abN (a2a a y) ys i
  rw [h1.step a]
  exact d3c h2
 | i + 1, [], y :: ys, a, h => h.elim
 | i + 1, x :: xs, [], a, h => h.elim
structure f10 (es : List D) (k n t vi : Int) (vt : List UInt8) (vm : Bool) (i : Int) (x : D) (a : Ab) : Prop where
 z : a2q es k = 0
 i0 : 0 ≤ i
 i1 : i < (a3d a x).length
 nm : ((a3d a x).map fN).getD i.toNat 0 = n
 ty : fT (a0q a x i) = t
 e : (a6t (fS (a0q a x i)) (fT (a0q a x i)) vi vt vm (a.bg (sX x).toNat)).1 = 0
 f : fileE (es.set k.toNat (b3L x ((a0q a x i).cell 3).toI (fS (a0q a x i)) (a6t (fS (a0q a x i)) (fT (a0q a x i)) vi vt vm (a.bg (sX x).toNat)).2)) = 0
 o : b91 es k n t vi vt vm = (0, es.set k.toNat (b3L x ((a0q a x i).cell 3).toI (fS (a0q a x i)) (a6t (fS (a0q a x i)) (fT (a0q a x i)) vi vt vm (a.bg (sX x).toNat)).2))
theorem e3b {es : List D} {k n t vi : Int} {vt : List UInt8} {vm : Bool} (h : (b91 es k n t vi vt vm).1 = 0) : ∃ i, f10 es k n t vi vt vm i (es.getD k.toNat (.i 0)) (abN Ab.start es k.toNat) := by
 obtain ⟨r, hr⟩ : ∃ r, b91 es k n t vi vt vm = r := ⟨_, rfl⟩
 have hr0 := hr
 unfold b91 at hr
 rw [hr0] at h
 cases hd : a2q es k != 0 with
 | true => rw [hd] at hr; subst hr; exact absurd h (by simpa using hd)
 | false =>
  have hz : a2q es k = 0 := by simpa using hd
  rw [hd] at hr
  simp only [f23] at hr
  generalize es.getD k.toNat (.i 0) = x at hr ⊢
  generalize abN Ab.start es k.toNat = a at hr ⊢
  cases hi : fIx n ((a3d a x).map fN) 0 with
  | none => rw [hi] at hr; subst hr; exact absurd (show (4 : Int) = 0 from h) (by decide)
  | some i =>
   rw [hi] at hr
   obtain ⟨i0, i1, i2⟩ := c4j hi
   rw [List.length_map] at i1
   rw [Int.sub_zero] at i2
   simp only at hr
   unfold b67 at hr
   cases ht : fT (a0q a x i) != t with
   | true => rw [ht] at hr; subst hr; exact absurd (show (7 : Int) = 0 from h) (by decide)
   | false =>
    rw [ht] at hr
    simp only [f23] at hr
    cases he : (a6t (fS (a0q a x i)) (fT (a0q a x i)) vi vt vm (a.bg (sX x).toNat)).1 != 0 with
    | true => rw [he] at hr; subst hr; exact absurd h (by simpa using he)
    | false =>
     rw [he] at hr
     simp only [f23] at hr
     cases hf : fileE (es.set k.toNat (b3L x ((a0q a x i).cell 3).toI (fS (a0q a x i)) (a6t (fS (a0q a x i)) (fT (a0q a x i)) vi vt vm (a.bg (sX x).toNat)).2)) != 0 with
     | true => rw [hf] at hr; subst hr; exact absurd h (by simpa using hf)
     | false =>
      rw [hf] at hr
      exact ⟨i, hz, i0, by omega, i2, by simpa using ht, by simpa using he, by simpa using hf, hr0.trans hr.symm⟩
end Go.Proofs.Ytfogaejiehebeaa

namespace Go.Proofs.Ytfogaejiehebeaa
open Go Go.AM
set_option maxRecDepth 100000
set_option maxHeartbeats 4000000
set_option linter.unusedVariables false
section
variable {N : Nat}
theorem d3d {xs ys : List D} (h : All2 EqE xs ys) {w : Int} (h0 : 0 ≤ w) (h1 : w < xs.length) : EqE (xs.getD w.toNat (.i 0)) (ys.getD w.toNat (.i 0)) := b9V h (a0P h0 h1)
theorem e8w {es : List D} {n : Nat} {y : D} (h : n < es.length) : (es.set n y).getD n (.i 0) = y := by
 rw [f26, List.getElem?_set_self h]; rfl
theorem e8x {es : List D} {n m : Nat} {y : D} (h : m ≠ n) : (es.set n y).getD m (.i 0) = es.getD m (.i 0) := by
 rw [f26, List.getElem?_set_ne (fun e => h e.symm), ← f26]
theorem b93 : ∀ {n : Nat} {xs ys : List D}, All2 EqE xs ys → All2 EqE (xs.take n) (ys.take n)
 | 0, _, _, _ => by rw [List.take_zero, List.take_zero]; trivial
 | n + 1, [], [], _ => trivial
 | n + 1, x :: xs, y :: ys, h => ⟨h.1, b93 h.2⟩
 | n + 1, [], _ :: _, h => h.elim
 | n + 1, _ :: _, [], h => h.elim
theorem b7a {es : List D} {n : Nat} {y : D} : (es.set n y).take n = es.take n := by
 rw [List.take_set_of_le (Nat.le_refl n)]
theorem d8s {data b : List D} {p q r : Nat} (h1 : q ≤ p) (h2 : p ≤ data.length) (h3 : r = p + b.length) (h4 : r ≤ data.length) : ((data.take p ++ b ++ data.drop r).take q) = data.take q := by
 rw [List.append_assoc, List.take_append_of_le_length (by rw [List.length_take]; omega), List.take_take, Nat.min_eq_left h1]
theorem d8t {data b : List D} {p q r u : Nat} (h1 : r ≤ q) (h2 : p ≤ data.length) (h3 : r = p + b.length) (h4 : r ≤ data.length) : ((data.take p ++ b ++ data.drop r).take u).drop q = (data.take u).drop q := by
 have hd : ∀ (l l' : List D), l.drop r = l'.drop r → (l.take u).drop q = (l'.take u).drop q := by
  intro l l' h
  have e : ∀ m : List D, (m.take u).drop q = ((m.drop r).take (u - r)).drop (q - r) := by
   intro m
   rw [← List.drop_take, List.drop_drop]
   congr 1
   omega
  rw [e l, e l', h]
 refine hd _ _ ?_
 rw [List.drop_append_of_le_length (by simp only [List.length_append, List.length_take]; omega), List.drop_eq_nil_of_le (by simp only [List.length_append, List.length_take]; omega), List.nil_append]
theorem d8u {data b : List D} {p r : Nat} (h2 : p ≤ data.length) (h3 : r = p + b.length) (h4 : r ≤ data.length) : ((data.take p ++ b ++ data.drop r).take r).drop p = b := by
 have hl : (data.take p).length = p := by rw [List.length_take]; omega
 rw [List.take_append_of_le_length (by simp only [List.length_append, hl]; omega), List.take_of_length_le (by simp only [List.length_append, hl]; omega), List.drop_append_of_le_length (by omega), List.drop_of_length_le (by omega), List.nil_append]
theorem e0o {a : Ab} {x : D} (hf : a1I (a.fs (sX x).toNat)) {w : Int} (h0 : 0 ≤ w) (h1 : w < (a3d a x).length) : ((a0q a x w).cell 3).toI = szL ((flds (kX x == 3) (a.fs (sX x).toNat)).take w.toNat) ∧ fS (a0q a x w) = fS ((flds (kX x == 3) (a.fs (sX x).toNat)).getD w.toNat (.i 0)) := by
 obtain ⟨r1, r2, r3⟩ := b90 (fs := a.fs (sX x).toNat) (t := kX x == 3) (a := 0)
 have hl : (a3d a x).length = (flds (kX x == 3) (a.fs (sX x).toNat)).length := r1
 obtain ⟨q1, q2, q3⟩ := r3 w.toNat (by omega)
 exact ⟨by have : ((a0q a x w).cell 3).toI = 0 + szL ((flds (kX x == 3) (a.fs (sX x).toNat)).take w.toNat) := q3; omega, q1⟩
theorem d8v {l : List D} (h : ∀ f ∈ l, 0 ≤ fS f ∧ fS f ≤ 255) {m n : Nat} (hmn : m ≤ n) : szL (l.take m) ≤ szL (l.take n) := by
 have hap : ∀ (xs ys : List D), szL (xs ++ ys) = szL xs + szL ys := by
  intro xs ys
  induction xs with
  | nil => simp [szL]
  | cons z zs ih => simp only [List.cons_append, szL, ih]; omega
 have e : l.take n = l.take m ++ (l.drop m).take (n - m) := by
  rw [← List.drop_take]
  conv => lhs; rw [← List.take_append_drop m (l.take n)]
  rw [List.take_take, Nat.min_eq_left hmn]
 rw [e, hap]
 have := (a3b (fs := (l.drop m).take (n - m)) (fun f hf => h f (List.mem_of_mem_drop (List.mem_of_mem_take hf)))).1
 omega
theorem apart {a : Ab} {x : D} (hf : a1I (a.fs (sX x).toNat)) {w i : Int} (h0 : 0 ≤ w) (h1 : w < (a3d a x).length) (i0 : 0 ≤ i) (i1 : i < (a3d a x).length) (hwi : w < i) : ((a0q a x w).cell 3).toI + fS (a0q a x w) ≤ ((a0q a x i).cell 3).toI := by
 obtain ⟨p1, p2⟩ := e0o hf h0 h1
 obtain ⟨q1, q2⟩ := e0o hf i0 i1
 have hB := hf.flds (kX x == 3)
 have hl : (a3d a x).length = (flds (kX x == 3) (a.fs (sX x).toNat)).length := (b90 (fs := a.fs (sX x).toNat) (t := kX x == 3) (a := 0)).1
 have := c4k h0 (l := flds (kX x == 3) (a.fs (sX x).toNat)) (by omega)
 have := d8v hB.size (show (w + 1).toNat ≤ i.toNat by omega)
 omega
theorem e0p {g : D → D} {l : List D} {w : Int} (h0 : 0 ≤ w) (h1 : w < l.length) : (l.map g).getD w.toNat (.i 0) = g (l.getD w.toNat (.i 0)) := by
 rw [f26, f26, List.getElem?_map, f3c (show w.toNat < l.length by omega)]; rfl
theorem c67 {i : Int} {x : D} {a : Ab} (hx : a3x x) (hf : a1I (a.fs (sX x).toNat)) (F : ∀ w : Int, 0 ≤ w → w < (a3d a x).length → 0 ≤ ((a0q a x w).cell 3).toI ∧ ((a0q a x w).cell 3).toI + fS (a0q a x w) ≤ (bX x).length ∧ 1 ≤ fS (a0q a x w))
  {b : List D} {big : Bool} (i0 : 0 ≤ i) (i1 : i < (a3d a x).length) (hb : (b.length : Int) = fS (a0q a x i)) {w : Int} (h0 : 0 ≤ w) (h1 : w < (a3d a x).length) (hw : w ≠ i) :
  c4e (bX (b3L x ((a0q a x i).cell 3).toI (fS (a0q a x i)) b)) big (a0q a x w) = c4e (bX x) big (a0q a x w) := by
 obtain ⟨f0, f1, f2⟩ := F w h0 h1
 obtain ⟨g0, g1, g2⟩ := F i i0 i1
 have e : ((bX (b3L x ((a0q a x i).cell 3).toI (fS (a0q a x i)) b)).take (((a0q a x w).cell 3).toI + fS (a0q a x w)).toNat).drop ((a0q a x w).cell 3).toI.toNat = ((bX x).take (((a0q a x w).cell 3).toI + fS (a0q a x w)).toNat).drop ((a0q a x w).cell 3).toI.toNat := by
  show (((bX x).take ((a0q a x i).cell 3).toI.toNat ++ b ++ (bX x).drop (((a0q a x i).cell 3).toI + fS (a0q a x i)).toNat).take _).drop _ = _
  by_cases hlt : w < i
  ·have := apart hf h0 h1 i0 i1 hlt
   rw [d8s (by omega) (by omega) (by omega) (by omega)]
  ·have := apart hf i0 i1 h0 h1 (by omega)
   exact d8t (by omega) (by omega) (by omega) (by omega)
 unfold c4e f0X
 rw [e]
theorem d3e {vi : Int} {vt : List UInt8} {vm : Bool} {i : Int} {x : D} {a : Ab} {b : List D} {big : Bool} (f0 : 0 ≤ ((a0q a x i).cell 3).toI) (f1 : ((a0q a x i).cell 3).toI + fS (a0q a x i) ≤ (bX x).length) (hb : (b.length : Int) = fS (a0q a x i)) (hv : d5y (fS (a0q a x i)) (fT (a0q a x i)) b big = (vi, vt, vm)) :
  c4e (bX (b3L x ((a0q a x i).cell 3).toI (fS (a0q a x i)) b)) big (a0q a x i) = .a [.i (fN (a0q a x i)), .i (fT (a0q a x i)), .i vi, .s vt, .b vm] := by
 have e : ((bX (b3L x ((a0q a x i).cell 3).toI (fS (a0q a x i)) b)).take (((a0q a x i).cell 3).toI + fS (a0q a x i)).toNat).drop ((a0q a x i).cell 3).toI.toNat = b := by
  show (((bX x).take ((a0q a x i).cell 3).toI.toNat ++ b ++ (bX x).drop (((a0q a x i).cell 3).toI + fS (a0q a x i)).toNat).take _).drop _ = _
  exact d8u (by omega) (by omega) (by omega)
 unfold c4e f0X
 rw [e, hv]
theorem e8y (hN : maxLen < N) {es out S : List D} {k : Int} (hed : ∀ x ∈ es, a3x x) (hl : es.length ≤ maxLen) (ha : All2 EqE S out) (hS : S.length = es.length) (hk : ∀ w : Int, 0 ≤ w → w ≠ k → S.getD w.toNat (.i 0) = es.getD w.toNat (.i 0)) (hk0 : 0 ≤ k) : d3f N k es.length es out 0 = some (.inr ()) := by
 have hmx : maxLen = 9223372036854775807 := rfl
 have hol := All2.length ha
 have loop : ∀ (m : Nat) (w : Int), 0 ≤ w → w ≤ es.length → (es.length - w).toNat < m → b3n N k es.length es out m w (fun p => some (Sum.inl p)) (fun p => some (Sum.inr p)) = some (.inr ()) := by
  intro m
  induction m with
  | zero => intro w _ _ h; omega
  | succ m ih =>
   intro w h0 h1 hm
   unfold b3n b7b
   by_cases hw : w < es.length
   ·have hq : b3o N k w es out = some false := by
     unfold b3o b3p
     by_cases hwk : w = k
     ·rw [show (w != k) = false from by simp [hwk]]; rfl
     ·have he := d3d ha (w := w) h0 (by omega)
      rw [hk w h0 hwk] at he
      have hs := d8e (N := N) hN he (hed _ (a0S (fs := es) h0 hw))
      have hs' : c2k N ((es.getD w.toNat (.i 0)).cell 0).toI ((es.getD w.toNat (.i 0)).cell 1).toI ((es.getD w.toNat (.i 0)).cell 2).toI ((es.getD w.toNat (.i 0)).cell 3).items ((es.getD w.toNat (.i 0)).cell 4).items ((out.getD w.toNat (.i 0)).cell 0).toI ((out.getD w.toNat (.i 0)).cell 1).toI ((out.getD w.toNat (.i 0)).cell 2).toI ((out.getD w.toNat (.i 0)).cell 3).items ((out.getD w.toNat (.i 0)).cell 4).items = some true := hs
      rw [show (w != k) = true from by simpa using hwk, a0P h0 hw, a0P h0 (show w < out.length by omega), hs']
      rfl
    rw [decide_eq_true hw, hq]
    simp only [f22, a0s, f27, getD_some, f23, a0Y (x := w + 1) (by omega) (by omega)]
    exact ih (w + 1) (by omega) (by omega) (by omega)
   ·rw [decide_eq_false hw]; rfl
 exact loop N 0 (by omega) (by omega) (by omega)
theorem e8z (hN : maxLen < N) {A B : List D} {n t vi : Int} {vt : List UInt8} {vm : Bool} (hl : A.length ≤ maxLen) (hB : B.length = A.length) (h : ∀ w : Int, 0 ≤ w → w < A.length → (fN (A.getD w.toNat (.i 0)) = n ∧ B.getD w.toNat (.i 0) = .a [.i n, .i t, .i vi, .s vt, .b vm]) ∨ (fN (A.getD w.toNat (.i 0)) ≠ n ∧ B.getD w.toNat (.i 0) = A.getD w.toNat (.i 0))) : d3g N A B A.length n t vi vt vm 0 = some (.inr ()) := by
 have hmx : maxLen = 9223372036854775807 := rfl
 have loop : ∀ (m : Nat) (w : Int), 0 ≤ w → w ≤ A.length → (A.length - w).toNat < m → b3q N A B A.length n t vi vt vm m w (fun p => some (Sum.inl p)) (fun p => some (Sum.inr p)) = some (.inr ()) := by
  intro m
  induction m with
  | zero => intro w _ _ h; omega
  | succ m ih =>
   intro w h0 h1 hm
   unfold b3q b7c
   by_cases hw : w < A.length
   ·have hq : b3r N A B w n t vi vt vm = some false := by
     unfold b3r b3s
     rw [a0P h0 hw, a0P h0 (show w < B.length by omega)]
     rcases h w h0 hw with ⟨e1, e2⟩ | ⟨e1, e2⟩
     ·have e1' : ((A.getD w.toNat (.i 0)).cell 0).toI = n := e1
      rw [e1', e2]
      simp [a0s, D.cell, D.toI, D.toS, D.toB]
     ·have e1' : (((A.getD w.toNat (.i 0)).cell 0).toI == n) = false := by simpa [fN] using e1
      have e1'' : (((A.getD w.toNat (.i 0)).cell 0).toI != n) = true := by simpa [fN] using e1
      rw [e1', e1'', e2]
      simp [a0s]
    rw [decide_eq_true hw, hq]
    simp only [f22, a0s, f27, getD_some, f23, a0Y (x := w + 1) (by omega) (by omega)]
    exact ih (w + 1) (by omega) (by omega) (by omega)
   ·rw [decide_eq_false hw]; rfl
 exact loop N 0 (by omega) (by omega) (by omega)
end
end Go.Proofs.Ytfogaejiehebeaa

namespace Go.Proofs.Ytfogaejiehebeaa
open Go Go.AM
set_option maxRecDepth 100000
set_option maxHeartbeats 4000000
set_option linter.unusedVariables false
theorem f2W {es : List D} (hes : ∀ x ∈ es, c62 x) (hl : es.length ≤ maxLen) (k n t vi : Int) {vt : List UInt8} (vm : Bool) (hv : vt.length ≤ maxLen) : e8A 18446744073709551616 es k n t vi vt vm = some true := by
 have hN : maxLen < 18446744073709551616 := by decide
 have hmx : maxLen = 9223372036854775807 := rfl
 have hed : ∀ x ∈ es, a3x x := fun x hx => (hes x hx).entD
 obtain ⟨n7, out, q7, a7⟩ := d8o (N := 18446744073709551616) hN hes k n t vi vm hv
 obtain ⟨n8, o8, q8, a8⟩ := e29 (N := 18446744073709551616) hN hes k n t vi vm hv
 obtain ⟨c1, c2⟩ := d8p hed k n t vi vt vm
 unfold e8A e8B
 cases hc : (b91 es k n t vi vt vm).1 != 0 with
 | true =>
  have e13 : b3t 18446744073709551616 (b91 es k n t vi vt vm).1 (b91 es k n t vi vt vm).1 = some true := by
   unfold b3t a83
   rw [beq_self_eq_true, d24]; rfl
  simp only [a0s, q7, q8, f27, getD_some, hc, f22, e13]
 | false =>
  have hc0 : (b91 es k n t vi vt vm).1 = 0 := by simpa using hc
  obtain ⟨i, K⟩ := e3b hc0
  have A := d20 hed K.z
  have kn : k.toNat < es.length := by have := A.k0; have := A.k1; omega
  obtain ⟨X, hX⟩ : ∃ X, b3L (es.getD k.toNat (.i 0)) ((a0q (abN Ab.start es k.toNat) (es.getD k.toNat (.i 0)) i).cell 3).toI (fS (a0q (abN Ab.start es k.toNat) (es.getD k.toNat (.i 0)) i)) (a6t (fS (a0q (abN Ab.start es k.toNat) (es.getD k.toNat (.i 0)) i)) (fT (a0q (abN Ab.start es k.toNat) (es.getD k.toNat (.i 0)) i)) vi vt vm ((abN Ab.start es k.toNat).bg (sX (es.getD k.toNat (.i 0))).toNat)).2 = X := ⟨_, rfl⟩
  have Ko := K.o
  have Kf := K.f
  rw [hX] at Ko Kf
  have aS : All2 EqE (es.set k.toNat X) out := by rw [Ko] at a7; exact a7
  have hSl : (es.set k.toNat X).length = es.length := List.length_set
  have hol := All2.length aS
  have hod : ∀ y ∈ out, a3x y := a7X a7 c1
  -- the other entries
  have e24 := e8y (N := 18446744073709551616) hN (k := k) hed hl aS hSl (fun w w0 wk => e8x (by have := A.k0; omega)) A.k0
  -- the values
  obtain ⟨n5, q5⟩ := e8o (N := 18446744073709551616) hN hed k
  obtain ⟨n6, q6⟩ := e8o (N := 18446744073709551616) hN hod k
  obtain ⟨a, ha⟩ : ∃ a, abN Ab.start es k.toNat = a := ⟨_, rfl⟩
  obtain ⟨x, hxx⟩ : ∃ x, es.getD k.toNat (.i 0) = x := ⟨_, rfl⟩
  have hao : abN Ab.start out k.toNat = a := by
   rw [← d3c (a := Ab.start) (b93 aS (n := k.toNat)), d3c (a := Ab.start) (xs := es.set k.toNat X) (ys := es) (by rw [b7a]; exact b3g _), ha]
  have hxo : EqE X (out.getD k.toNat (.i 0)) := by
   have := d3d aS (w := k) A.k0 (by have := A.k1; omega)
   rw [e8w kn] at this
   exact this
  have hfo : fileE out = 0 := by rw [← All2.fileE aS]; exact Kf
  rw [ha, hxx] at hX
  have hkX : kX (out.getD k.toNat (.i 0)) = kX x := by rw [← hxo.k, ← hX]; rfl
  have hsX : sX (out.getD k.toNat (.i 0)) = sX x := by rw [← hxo.s, ← hX]; rfl
  have Ad := A.d
  have Af := A.f
  have At' := A.t
  have Ax := A.x
  rw [hxx] at Ad Ax
  rw [ha, hxx] at Af At'
  have hdo : a2q out k = 0 := by
   unfold a2q
   rw [hfo, hkX, show ((0 : Int) != 0) = false from rfl, decide_eq_false (show ¬ k < 0 by have := A.k0; omega), decide_eq_false (show ¬ k ≥ (out.length : Int) by have := A.k1; omega), show (kX x == 1) = false by simpa using Ad]
   rfl
  have hv5 : a7W es k = (a3d a x).map (c4e (bX x) (a.bg (sX x).toNat)) := by
   unfold a7W
   rw [K.z, ha, hxx]
   exact a40.symm
  have hv6 : a7W out k = (a3d a x).map (c4e (bX X) (a.bg (sX x).toNat)) := by
   unfold a7W e23
   rw [hdo, hao, hkX, hsX, ← hxo.b]
   exact a40.symm
  have Fi := fun (w : Int) (p : 0 ≤ w) (q : w < (a3d a x).length) => b01 A p (by rw [ha, hxx]; exact q)
  have K1 := K.i1
  have Kn := K.nm
  have Kt := K.ty
  have Ke := K.e
  rw [ha, hxx] at K1 Kn Kt Ke
  have F : ∀ w : Int, 0 ≤ w → w < (a3d a x).length → 0 ≤ ((a0q a x w).cell 3).toI ∧ ((a0q a x w).cell 3).toI + fS (a0q a x w) ≤ (bX x).length ∧ 1 ≤ fS (a0q a x w) := by
   intro w p q
   have H := Fi w p q
   have h0 := H.a0
   have h1 := H.a1
   have h2 := H.s
   rw [ha, hxx] at h0 h1 h2
   exact ⟨h0, h1, h2.1⟩
  have HI := Fi i K.i0 K1
  have hIs := HI.s
  have hIz := HI.z
  have hIt := HI.t
  rw [ha, hxx] at hIs hIz hIt
  obtain ⟨el, eb⟩ := b66 (vi := vi) (vt := vt) (vm := vm) (big := a.bg (sX x).toNat) hIs hIz hIt Ke
  have hval := d8r (vi := vi) (vt := vt) (vm := vm) (big := a.bg (sX x).toNat) hIs hIz hIt Ke
  have hU : e4C ((a3d a x).map fN) := by
   have hu := c4m (i := k.toNat) OkU.start A.e kn
   have hE := a2E (a51 (i := k.toNat) OkA.start OkT.start A.e kn).2.2
   rw [ha, hxx] at hE
   rw [ha] at hu
   exact b3m a82 (hu _ (hE.n Ad).1)
  have fnm : ∀ w : Int, 0 ≤ w → w < (a3d a x).length → ((a3d a x).map fN).getD w.toNat 0 = fN (a0q a x w) := by
   intro w p q
   rw [f26, List.getElem?_map, f3c (show w.toNat < (a3d a x).length by omega)]
   unfold a0q
   rw [f26, f3c (show w.toNat < (a3d a x).length by omega)]
   rfl
  have e54 := e8z (N := 18446744073709551616) hN (A := a7W es k) (B := a7W out k) (n := n) (t := t) (vi := vi) (vt := vt) (vm := vm) (by have := d26 hed k; omega) (by rw [hv5, hv6, List.length_map, List.length_map]) (by
   intro w w0 w1
   rw [hv5, List.length_map] at w1
   have hA : (a7W es k).getD w.toNat (.i 0) = c4e (bX x) (a.bg (sX x).toNat) (a0q a x w) := by rw [hv5]; exact e0p w0 w1
   have hB : (a7W out k).getD w.toNat (.i 0) = c4e (bX X) (a.bg (sX x).toNat) (a0q a x w) := by rw [hv6]; exact e0p w0 w1
   rw [hA, hB]
   have hfa : fN (c4e (bX x) (a.bg (sX x).toNat) (a0q a x w)) = fN (a0q a x w) := rfl
   by_cases hwi : w = i
   ·subst hwi
    left
    refine ⟨by rw [hfa, ← fnm w w0 w1]; exact Kn, ?_⟩
    rw [← hX, d3e (F w w0 w1).1 (F w w0 w1).2.1 el hval, ← fnm w w0 w1, Kn, Kt]
   ·right
    refine ⟨fun h => hwi ?_, ?_⟩
    ·rw [hfa, ← fnm w w0 w1] at h
     have := hU w.toNat i.toNat (by rw [List.length_map]; omega) (by rw [List.length_map]; have := K.i0; omega) (h.trans Kn.symm)
     have := K.i0
     omega
    ·rw [← hX]
     exact c67 Ax Af F K.i0 K1 el w0 w1 hwi)
  have hlen : ((out.length : Int) != (es.length : Int)) = false := by
   rw [show out.length = es.length by omega]; simp
  have hvl : (((a7W es k).length : Int) != ((a7W out k).length : Int)) = false := by
   rw [hv5, hv6, List.length_map, List.length_map]; simp
  simp only [a0s, q7, f27, getD_some, hc, f22, f23, hlen, e24, d6e, d6f, q5, q6, K.z, hdo, bne_self_eq_false, hvl, e54, d24]
theorem d8w (dss : List (List D)) (h : All2 (b2k Try.prog 6) Try.f4.params.toList dss) : a2c Try.prog 4 (d59 Try.prog Try.f4.params.toList dss) [] ([.c (.b true)], []) := by
 have hp : Try.f4.params.toList = [24, 3, 26] := by kernel_rfl
 rw [hp] at h ⊢
 match dss, h with
 | [d0, d1, d2], ⟨h0, h1, h2, _⟩ =>
  obtain ⟨nl, es, rfl, hnl, hl, hes⟩ := f1R h0
  obtain ⟨k, rfl, hk⟩ := f2P h1
  obtain ⟨n, t, vi, vt, vm, rfl, hv, _, _, _⟩ := f1Z h2
  refine e8C 18446744073709551616 _ _ (f0Z 18446744073709551616 [.b nl, .l es, .i k, .i n, .i t, .i vi, .s vt, .b vm]) (by kernel_rfl) _ ?_
  have e : f0Z 18446744073709551616 [.b nl, .l es, .i k, .i n, .i t, .i vi, .s vt, .b vm] = bnd (e8A 18446744073709551616 es k n t vi vt vm) fun q => [(q.isSome, ([.c (.b (q.getD default))], []))] := by kernel_rfl
  rw [e, f2W hes hl k n t vi vm hv]
  rfl
theorem c68 (os : Os) (started : os.Started) (H : Type) (enc : TypeId × Value → H) :
  ReturnsInHanded {} Try.checked os 4 .any (Rows.recordSetKeepsAllSpec.pre6 enc Try.prog Try.f4 Rows.recordSetKeepsAllRow.domain false) (Rows.recordSetKeepsAllSpec.post enc Try.prog Try.f4 false true false false) := by
 refine returnsInHanded_of_change_shaped (C := Try.checked) Try.own started (by kernel_rfl) Try.func4
  (ChangeSpec.witness6 (enc := enc) (C := Try.checked) false ⟨#[], #[.agg #[.slice none 0 0], .int .i64 0, .agg #[.int .i64 0, .int .i64 0, .int .i64 0, .string ⟨#[]⟩, .bool false]], []⟩ 8 (by kernel_rfl) (by kernel_rfl) (by kernel_rfl) (by kernel_rfl)) ?_
 intro W base args ds gs before hval hW _ _ hsh _
 exact d6d (m := 6) (tb := 4) Try.laidOut rfl (by kernel_rfl) (by kernel_rfl) (by kernel_rfl) (fun l hl => by
  rw [show Try.f4.params.size = 3 by kernel_rfl] at hl
  match l, hl with
  | [_, _, _], _ => rfl) d8w (giW hsh) hval hW
theorem sets_holds : Rows.RecordSetKeepsAllSaid :=
 OpenClaim.holds_of_wide 4 Try.f4 rfl rfl rfl rfl rfl rfl rfl ⟨rfl, rfl, rfl, rfl, rfl⟩ rfl rfl rfl rfl rfl (by kernel_rfl) Try.func4 (by kernel_rfl)
  (of_decide_eq_true (by kernel_rfl)) (by unfold Func.isWrapper; first | (rw [if_pos (by decide +kernel)]; kernel_rfl) | (rw [if_neg (by decide +kernel)]; exact ⟨rfl, rfl⟩))
  (fun os started H enc _ => c68 os started H enc)
end Go.Proofs.Ytfogaejiehebeaa

