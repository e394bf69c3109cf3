/- A part of a proof of a law: lemmas. Conditions: those of each lemma. -/
import Derived.Test.YtfogaejiehebeaaSQp1
import Derived.KernelRfl
import Derived.HandedShaped
import Derived.Test.YtfogaejiehebeaaRows
set_option linter.all false
set_option maxRecDepth 100000
namespace Go.Proofs.Ytfogaejiehebeaa
open Go Go.AM
set_option maxRecDepth 100000
set_option maxHeartbeats 4000000
variable {N : Nat}
def inI (n a b : Int) : Bool := decide (a ≤ n ∧ n ≤ b)
theorem V35x0_eq (n a b : Int) : V35x0 N n a b = inI n a b := by
 unfold V35x0 F35x0 inI
 rw [Bool.eq_iff_iff]; simp
theorem V49x0_eq (n a b : Int) : V49x0 N n a b = !inI n a b := by
 unfold V49x0 F49x0 inI
 rw [Bool.eq_iff_iff]; simp <;> omega
def firstE (e : Int → Int) : Int → List D → Int
 | _, [] => 0
 | w, _ :: r => bif e w != 0 then e w else firstE e (w + 1) r
def wayE (n : Int) : Sum Int Unit := bif n != 0 then .inl n else .inr ()
theorem wayE_cons {e : Int → Int} {w : Int} {x : D} {l : List D} : wayE (firstE e w (x :: l)) = bif e w != 0 then .inl (e w) else wayE (firstE e (w + 1) l) := by
 simp only [firstE]
 cases h : e w != 0 with
 | true => simp only [_root_.cond_true, wayE, h]
 | false => rfl
section
variable {xs : List D} {w : Int}
end
theorem way_do {α : Type} (n : Int) (k0 : Int → α) (k1 : α) (z : α) : (bif inlB (some (wayE n)) then k0 (inlV (some (wayE n))) else bif (inrQ (some (wayE n))).isSome then k1 else z) = bif n != 0 then k0 n else k1 := by
 unfold wayE
 cases n != 0 <;> rfl
section
variable {name : List UInt8} {sport start : Int} {smps laps tags : List D}
end
end Go.Proofs.Ytfogaejiehebeaa

namespace Go.Proofs.Ytfogaejiehebeaa
open Go Go.AM
set_option maxRecDepth 100000
set_option maxHeartbeats 4000000
variable {N : Nat}
def zipAll (f : D → D → Bool) : List D → List D → Bool
 | x :: r, y :: s => f x y && zipAll f r s
 | _, _ => true
theorem zip_ind {xs ys : List D} (f : D → D → Bool) {S : Int → (Int → Option (Sum Unit Unit)) → Option (Sum Unit Unit)} {L : Nat → Int → Option (Sum Unit Unit)} (hL : ∀ m a, L (m + 1) a = S a (L m)) (hlen : xs.length ≤ maxLen) (hxy : xs.length = ys.length)
  (hend : ∀ kr, S xs.length kr = some (.inr ()))
  (hstep : ∀ (w : Int) (kr : Int → Option (Sum Unit Unit)), decide (w < xs.length) = true → inB w xs.length = true → inB w ys.length = true → S w kr = bif f (xs.getD w.toNat (.i 0)) (ys.getD w.toNat (.i 0)) then kr (IntKind.wrap .i64 (w + 1)) else some (.inl ()))
  (hN : maxLen < N) : L N 0 = some (bif zipAll f xs ys then .inr () else .inl ()) := by
 refine (for_ind (.i 0 : D) hL (fun w l => some (bif zipAll f l (ys.drop w.toNat) then .inr () else .inl ())) hlen ?_ ?_ hN).trans (by simp)
 ·intro kr; rw [hend]; simp [zipAll]
 ·intro w kr h0 h1 hw hi hk
  have h2 : w < ys.length := by omega
  rw [hstep w kr (decide_eq_true h1) hi (inB_of h0 (by omega)), hw, hk, drop_at (.i 0) (xs := ys) h0 h2]
  simp only [zipAll]
  cases f (xs.getD w.toNat (.i 0)) (ys.getD w.toNat (.i 0)) <;> rfl
section
variable {xs ys : List D}
end
section
variable {n n' : List UInt8} {sp st sp' st' : Int} {s l t s' l' t' : List D}
end
end Go.Proofs.Ytfogaejiehebeaa

namespace Go.Proofs.Ytfogaejiehebeaa
open Go Go.AM
set_option maxRecDepth 100000
set_option maxHeartbeats 4000000
variable {N : Nat}
theorem loop_indE {A X : Type} {S : A → (A → X) → X} {L : Nat → A → X} (hL : ∀ m a, L (m + 1) a = S a (L m)) (P : A → X → Prop) (Inv : A → Prop) (μ : A → Nat)
  (h : ∀ a kr, Inv a → (∀ a', Inv a' → μ a' < μ a → P a' (kr a')) → P a (S a kr)) : ∀ (m : Nat) (a : A), Inv a → μ a < m → P a (L m a) := by
 intro m
 induction m with
 | zero => intro a _ h; omega
 | succ m ih => intro a ha hm; rw [hL]; exact h a (L m) ha fun a' h1 h2 => ih a' h1 (by omega)
def fN (f : D) : Int := (f.cell 0).toI
def fS (f : D) : Int := (f.cell 1).toI
def fT (f : D) : Int := (f.cell 2).toI
def isT (f : D) : Bool := (fN f == 253) && (fT f == 0) && (fS f == 4)
def hasN (n : Int) (l : List D) : Bool := l.any fun f => fN f == n
def fldE (fs : List D) (w : Int) : Int :=
 bif !(inI (fN (fs.getD w.toNat (.i 0))) 0 255) || !(inI (fS (fs.getD w.toNat (.i 0))) 1 255) then 9 else bif !inI (fT (fs.getD w.toNat (.i 0))) 0 3 then 7 else
 bif decide (fT (fs.getD w.toNat (.i 0)) ≤ 1) && (fS (fs.getD w.toNat (.i 0)) != 1) && (fS (fs.getD w.toNat (.i 0)) != 2) && (fS (fs.getD w.toNat (.i 0)) != 4) then 2 else
 bif hasN (fN (fs.getD w.toNat (.i 0))) (fs.take w.toNat) then 5 else 0
def defE (g : Int) (fs : List D) : Int := bif !inI g 0 65535 then 9 else bif decide ((fs.length : Int) > 30) then 3 else firstE (fldE fs) 0 fs
theorem G86x0_eq (hN : maxLen < N) {xs : List D} {n : Int} (hs : xs.length ≤ maxLen) : ∃ i : Int, G86x0 N xs n = some i ∧ decide (i ≥ 0) = hasN n xs := by
 have h : G86x0x6 N xs xs.length n 0 = some (match xs.findIdx? fun d => fN d == n with | some j => .inl (j : Int) | none => .inr ()) := by
  unfold G86x0x6
  refine (for_ind (.i 0 : D) (S := fun w kr => S86x0x6 N xs xs.length n w kr _ _) (L := fun m w => L86x0x6 N xs xs.length n m w _ _) (fun m w => rfl) (fun w l => some (match l.findIdx? fun d => fN d == n with | some j => .inl (w + (j : Int)) | none => .inr ())) hs ?_ ?_ hN).trans (by simp)
  ·intro kr; simp [S86x0x6]
  ·intro w kr h0 h1 hw hi hk
   simp only [S86x0x6, V80x0, F80x0, decide_eq_true h1, _root_.cond_true, hi, bnd_eq, hw, hk, List.findIdx?_cons]
   show (bif (fN (xs.getD w.toNat (.i 0)) == n) then _ else _) = _
   cases fN (xs.getD w.toNat (.i 0)) == n with
   | true => simp
   | false =>
    simp only [_root_.cond_false, Bool.false_eq_true, if_false]
    cases (xs.drop (w + 1).toNat).findIdx? fun d => fN d == n with
    | none => rfl
    | some j => simp; omega
 unfold G86x0 F86x0
 rw [h]
 have hl : hasN n xs = (xs.findIdx? fun d => fN d == n).isSome := by
  rw [List.findIdx?_isSome]; rfl
 rw [hl]
 cases xs.findIdx? fun d => fN d == n with
 | none => exact ⟨-1, rfl, rfl⟩
 | some j => exact ⟨j, rfl, by simp⟩
theorem G79x0_eq (hN : maxLen < N) {xs : List D} {n : Int} (hs : xs.length ≤ maxLen) : G79x0 N xs n = some (hasN n xs) := by
 obtain ⟨i, h1, h2⟩ := G86x0_eq hN (n := n) hs
 unfold G79x0 F79x0
 rw [h1]
 simp only [bnd_eq, Option.isSome_some, _root_.cond_true, getD_some, h2]
theorem G72x0x45_eq (hN : maxLen < N) {xs : List D} {n : Int} (hs : xs.length ≤ maxLen) : G72x0x45 N xs xs.length n 0 = some (bif hasN n xs then .inl () else .inr ()) := by
 unfold G72x0x45
 refine (for_ind (.i 0 : D) (S := fun w kr => S72x0x45 N xs xs.length n w kr _ _) (L := fun m w => L72x0x45 N xs xs.length n m w _ _) (fun m w => rfl) (fun _ l => some (bif hasN n l then .inl () else .inr ())) hs ?_ ?_ hN).trans rfl
 ·intro kr; simp [S72x0x45, hasN]
 ·intro w kr h0 h1 hw hi hk
  simp only [S72x0x45, decide_eq_true h1, _root_.cond_true, hi, hw, hk, hasN, List.any_cons]
  show (bif (fN (xs.getD w.toNat (.i 0)) == n) then _ else _) = _
  cases fN (xs.getD w.toNat (.i 0)) == n <;> rfl
section
variable {fs : List D} {w : Int}
theorem take_ok (h0 : 0 ≤ w) (h1 : w < fs.length) : (decide (0 ≤ w) && decide (w ≤ (fs.length : Int))) = true := by
 rw [decide_eq_true h0, decide_eq_true (by omega)]; rfl
theorem G71x0x18_eq (hN : maxLen < N) (hl : fs.length ≤ maxLen) : G71x0x18 N fs fs.length fs 0 = some (wayE (firstE (fldE fs) 0 fs)) := by
 unfold G71x0x18
 refine (for_ind (.i 0 : D) (S := fun w kr => S71x0x18 N fs fs.length fs w kr _ _) (L := fun m w => L71x0x18 N fs fs.length fs m w _ _) (fun m w => rfl) (fun w l => some (wayE (firstE (fldE fs) w l))) hl ?_ ?_ hN).trans rfl
 ·intro kr; simp [S71x0x18, firstE, wayE]
 ·intro w kr h0 h1 hw hi hk
  have hm := G79x0_eq hN (xs := fs.take w.toNat) (n := fN (fs.getD w.toNat (.i 0))) (by simp; omega)
  simp only [S71x0x18, decide_eq_true h1, _root_.cond_true, hi, bnd_eq, hw, hk, take_ok h0 h1, List.drop_zero, V71x0x28, F71x0x28, V35x0_eq, wayE_cons]
  rw [show (((fs.getD w.toNat (.i 0)).cell 0).toI) = fN (fs.getD w.toNat (.i 0)) from rfl, hm]
  unfold fldE
  generalize hasN (fN (fs.getD w.toNat (.i 0))) (fs.take w.toNat) = hh
  generalize fs.getD w.toNat (.i 0) = f
  rw [show ((f.cell 1).toI) = fS f from rfl, show ((f.cell 2).toI) = fT f from rfl]
  simp only [Option.isSome_some, getD_some, _root_.cond_true]
  cases inI (fN f) 0 255 <;> try rfl
  cases inI (fS f) 1 255 <;> try rfl
  cases h3 : inI (fT f) 0 3 <;> try rfl
  have e : (bif fT f == 0 then true else fT f == 1) = decide (fT f ≤ 1) := by
   unfold inI at h3
   rw [Bool.eq_iff_iff]; simp at h3 ⊢
   by_cases h : fT f = 0 <;> simp [h] <;> omega
  rw [e]
  cases decide (fT f ≤ 1) <;> cases (fS f != 1) <;> cases (fS f != 2) <;> cases (fS f != 4) <;> cases hh <;> rfl
theorem G72x0x18_eq (hN : maxLen < N) (hl : fs.length ≤ maxLen) : G72x0x18 N fs fs.length fs 0 = some (wayE (firstE (fldE fs) 0 fs)) := by
 unfold G72x0x18
 refine (for_ind (.i 0 : D) (S := fun w kr => S72x0x18 N fs fs.length fs w kr _ _) (L := fun m w => L72x0x18 N fs fs.length fs m w _ _) (fun m w => rfl) (fun w l => some (wayE (firstE (fldE fs) w l))) hl ?_ ?_ hN).trans rfl
 ·intro kr; simp [S72x0x18, firstE, wayE]
 ·intro w kr h0 h1 hw hi hk
  have hm := G72x0x45_eq hN (xs := fs.take w.toNat) (n := fN (fs.getD w.toNat (.i 0))) (by simp; omega)
  simp only [S72x0x18, decide_eq_true h1, _root_.cond_true, hi, bnd_eq, hw, hk, take_ok h0 h1, List.drop_zero, V72x0x25, F72x0x25, V49x0_eq, wayE_cons]
  rw [show (((fs.getD w.toNat (.i 0)).cell 0).toI) = fN (fs.getD w.toNat (.i 0)) from rfl, hm]
  unfold fldE
  generalize hasN (fN (fs.getD w.toNat (.i 0))) (fs.take w.toNat) = hh
  generalize fs.getD w.toNat (.i 0) = f
  rw [show ((f.cell 1).toI) = fS f from rfl, show ((f.cell 2).toI) = fT f from rfl]
  cases inI (fN f) 0 255 <;> cases inI (fS f) 1 255 <;> cases inI (fT f) 0 3 <;> try rfl
  cases decide (fT f ≤ 1) <;> cases (fS f != 1) <;> cases (fS f != 2) <;> cases (fS f != 4) <;> cases hh <;> rfl
theorem G71x0_eq (hN : maxLen < N) (g : Int) (hl : fs.length ≤ maxLen) : G71x0 N g fs = some (defE g fs) := by
 unfold G71x0 F71x0 defE
 simp only [bnd_eq, V35x0_eq, G71x0x18_eq hN hl, way_do]
 cases inI g 0 65535 <;> cases decide ((fs.length : Int) > 30) <;> try rfl
 cases h : firstE (fldE fs) 0 fs != 0 <;> first | rfl | (simp only [bne_eq_false_iff_eq] at h; simp [h])
theorem G72x0_eq (hN : maxLen < N) (g : Int) (hl : fs.length ≤ maxLen) : G72x0 N g fs = some (defE g fs) := by
 unfold G72x0 F72x0 defE
 simp only [bnd_eq, V49x0_eq, G72x0x18_eq hN hl, way_do]
 cases inI g 0 65535 <;> cases decide ((fs.length : Int) > 30) <;> try rfl
 cases h : firstE (fldE fs) 0 fs != 0 <;> first | rfl | (simp only [bne_eq_false_iff_eq] at h; simp [h])
end
structure FldsOk (fs : List D) : Prop where
 len : fs.length ≤ 255
 size : ∀ f ∈ fs, 0 ≤ fS f ∧ fS f ≤ 255
theorem firstE_zero {e : Int → Int} : ∀ {l : List D} {w : Int}, firstE e w l = 0 → ∀ i : Nat, i < l.length → e (w + i) = 0
 | [], w, _, i, hi => by simp at hi
 | x :: r, w, h, i, hi => by
  simp only [firstE] at h
  cases he : e w != 0 with
  | true =>
   rw [he] at h
   simp only [_root_.cond_true] at h
   rw [h] at he
   simp at he
  | false =>
   rw [he] at h
   cases i with
   | zero => simpa using he
   | succ i =>
    have := firstE_zero (l := r) (w := w + 1) h i (by simpa using hi)
    rw [show w + ((i + 1 : Nat) : Int) = w + 1 + (i : Int) by omega]
    exact this
theorem defE_ok {g : Int} {fs : List D} (h : defE g fs = 0) : FldsOk fs := by
 unfold defE at h
 cases h1 : inI g 0 65535 with
 | false => rw [h1] at h; exact absurd (show (9 : Int) = 0 from h) (by decide)
 | true =>
  rw [h1] at h
  cases h2 : decide ((fs.length : Int) > 30) with
  | true => rw [h2] at h; exact absurd (show (3 : Int) = 0 from h) (by decide)
  | false =>
   rw [h2] at h
   simp only [Bool.not_true, _root_.cond_false] at h
   refine ⟨by simp at h2; omega, fun f hf => ?_⟩
   obtain ⟨i, hi, rfl⟩ := List.getElem_of_mem hf
   have := firstE_zero h i hi
   rw [Int.zero_add] at this
   unfold fldE at this
   have hg : fs.getD ((i : Int)).toNat (.i 0) = fs[i] := by
    rw [List.getD_eq_getElem?_getD, Int.toNat_natCast, List.getElem?_eq_getElem hi]; rfl
   rw [hg] at this
   cases h3 : inI (fS fs[i]) 1 255 with
   | false =>
    rw [h3] at this
    cases inI (fN fs[i]) 0 255 <;> exact absurd (show (9 : Int) = 0 from by simpa using this) (by decide)
   | true => unfold inI at h3; simp at h3; omega
def szL : List D → Int
 | [] => 0
 | f :: r => fS f + szL r
def tmL : Int → List D → Int
 | _, [] => -1
 | a, f :: r => bif isT f then a else tmL (a + fS f) r
def flds : Bool → List D → List D
 | _, [] => []
 | t, f :: r => bif t && isT f then flds false r else .a [.i (fN f), .i (fS f), .i (fT f)] :: flds t r
theorem szL_bound : ∀ {fs : List D}, (∀ f ∈ fs, 0 ≤ fS f ∧ fS f ≤ 255) → 0 ≤ szL fs ∧ szL fs ≤ 255 * fs.length
 | [], _ => by simp [szL]
 | f :: r, h => by
  have h1 := h f (by simp)
  have h2 := szL_bound (fs := r) fun x hx => h x (by simp [hx])
  simp only [szL, List.length_cons]
  omega
theorem tmL_bound : ∀ {fs : List D} {a : Int}, 0 ≤ a → (∀ f ∈ fs, 0 ≤ fS f ∧ fS f ≤ 255) → (tmL a fs = -1 ∨ a ≤ tmL a fs ∧ tmL a fs + 4 ≤ a + szL fs)
 | [], _, _, _ => .inl rfl
 | f :: r, a, ha, h => by
  have h1 := h f (by simp)
  simp only [tmL, szL]
  cases ht : isT f with
  | true =>
   have h2 := szL_bound (fs := r) fun x hx => h x (by simp [hx])
   have h3 : fS f = 4 := by unfold isT at ht; simp at ht; exact ht.2
   right; simp only [_root_.cond_true]; omega
  | false =>
   simp only [_root_.cond_false]
   rcases tmL_bound (fs := r) (a := a + fS f) (by omega) (fun x hx => h x (by simp [hx])) with h2 | h2
   ·exact .inl h2
   ·right; omega
theorem szL_flds_false : ∀ fs : List D, szL (flds false fs) = szL fs
 | [] => rfl
 | f :: r => by simp only [flds, Bool.false_and, _root_.cond_false, szL, szL_flds_false r]; rfl
theorem szL_flds : ∀ {fs : List D} {a : Int}, 0 ≤ a → (∀ f ∈ fs, 0 ≤ fS f ∧ fS f ≤ 255) → (tmL a fs < 0 → szL (flds true fs) = szL fs) ∧ (0 ≤ tmL a fs → szL (flds true fs) = szL fs - 4)
 | [], _, _, _ => ⟨fun _ => rfl, fun h => absurd (show (0 : Int) ≤ -1 from h) (by decide)⟩
 | f :: r, a, ha, h => by
  have h1 := h f (by simp)
  have e : fS (.a [.i (fN f), .i (fS f), .i (fT f)]) = fS f := rfl
  cases ht : isT f with
  | true =>
   have h3 : fS f = 4 := by unfold isT at ht; simp at ht; exact ht.2
   simp only [flds, tmL, szL, ht, Bool.and_self, _root_.cond_true, szL_flds_false]
   constructor <;> intro h4 <;> omega
  | false =>
   have h5 := szL_flds (fs := r) (a := a + fS f) (by omega) fun x hx => h x (by simp [hx])
   simp only [flds, tmL, szL, ht, Bool.and_false, _root_.cond_false, e]
   exact ⟨fun h4 => by rw [h5.1 h4], fun h4 => by rw [h5.2 h4]; omega⟩
section
variable {fs : List D}
theorem getD_mem {w : Int} (h0 : 0 ≤ w) (h1 : w < fs.length) : fs.getD w.toNat (.i 0) ∈ fs := by
 rw [List.getD_eq_getElem?_getD, List.getElem?_eq_getElem (by omega)]; exact List.getElem_mem _
theorem isT_eq (f : D) : (bif (bif ((f.cell 0).toI == 253) then ((f.cell 2).toI == 0) else false) then ((f.cell 1).toI == 4) else false) = isT f := by
 unfold isT fN fT fS
 cases (f.cell 0).toI == 253 <;> cases (f.cell 2).toI == 0 <;> rfl
theorem V46x0_eq (f : D) : V46x0 N (f.cell 0).toI (f.cell 1).toI (f.cell 2).toI = isT f := isT_eq f
theorem G61x0_eq (hN : maxLen < N) (h : FldsOk fs) : G61x0 N fs = some (szL fs, tmL 0 fs) := by
 have hm : maxLen = 9223372036854775807 := rfl
 have hl := h.len
 have key := loop_ind (A := Int × Int × Int) (X := Option (Int × Int)) (S := fun x kr => S61x0x9 N fs fs.length x.1 x.2.1 x.2.2 (fun a b c => kr (a, b, c)) (fun p => some p)) (L := fun m x => L61x0x9 N fs fs.length m x.1 x.2.1 x.2.2 (fun p => some p)) (fun m x => rfl)
  (fun x => some (x.2.1 + szL (fs.drop x.1.toNat), bif decide (x.2.2 < 0) then tmL x.2.1 (fs.drop x.1.toNat) else x.2.2)) (fun x => 0 ≤ x.1 ∧ x.1 ≤ fs.length ∧ 0 ≤ x.2.1 ∧ x.2.1 ≤ 255 * x.1 ∧ -1 ≤ x.2.2) (fun x => (fs.length - x.1).toNat) ?_ N (0, 0, -1) ⟨by decide, by show (0 : Int) ≤ _; omega, by decide, by decide, by decide⟩ (by simp; omega)
 ·have k2 : G61x0x9 N fs fs.length 0 0 (-1) = some (szL fs, tmL 0 fs) := by
   refine Eq.trans key ?_
   simp
  unfold G61x0 F61x0
  rw [k2]; rfl
 ·rintro ⟨w, sz, t⟩ kr ⟨h0, h1, h2, h3, h4⟩ ih
  simp only at h0 h1 h2 h3 h4 ih ⊢
  unfold S61x0x9
  by_cases hw : w < fs.length
  ·have hf := h.size _ (getD_mem h0 hw)
   rw [decide_eq_true hw, inB_of h0 hw, drop_at (.i 0) h0 hw]
   simp only [_root_.cond_true, bnd_eq, V61x0x20, F61x0x20]
   rw [isT_eq]
   have e1 : ((fs.getD w.toNat (.i 0)).cell 1).toI = fS (fs.getD w.toNat (.i 0)) := rfl
   rw [e1, wrapI (x := sz + _) (by omega) (by omega), wrapI (x := w + 1) (by omega) (by omega)]
   rw [ih (w + 1, _, _) ⟨by omega, by omega, by simp only; omega, by simp only; omega, by simp only; cases isT (fs.getD w.toNat (.i 0)) <;> cases decide (t < 0) <;> simp <;> omega⟩ (by simp only; omega)]
   simp only [szL, tmL]
   cases ht : isT (fs.getD w.toNat (.i 0)) with
   | true =>
    by_cases hneg : t < 0
    ·simp only [decide_eq_true hneg, _root_.cond_true, decide_eq_false (show ¬ sz < 0 by omega), _root_.cond_false, Option.some.injEq, Prod.mk.injEq, and_true]; omega
    ·simp only [decide_eq_false hneg, _root_.cond_true, _root_.cond_false, Option.some.injEq, Prod.mk.injEq, and_true]; omega
   | false =>
    simp only [_root_.cond_false, Option.some.injEq, Prod.mk.injEq]
    refine ⟨by omega, ?_⟩
    by_cases hneg : t < 0 <;> simp [hneg]
  ·have : w = fs.length := by omega
   subst this
   rw [decide_eq_false hw, drop_end (by omega)]
   simp only [_root_.cond_false, szL, tmL, Int.add_zero, Option.some.injEq, Prod.mk.injEq, true_and]
   by_cases ht : t < 0
   ·rw [decide_eq_true ht]; simp only [_root_.cond_true]; omega
   ·rw [decide_eq_false ht]; rfl
def tmW (n : Int) : Sum Int Unit := bif decide (n < 0) then .inr () else .inl n
theorem G65x0_eq (hN : maxLen < N) (h : FldsOk fs) : G65x0 N fs = some (bif decide (tmL 0 fs < 0) then (0, false) else (tmL 0 fs, true)) := by
 have hm : maxLen = 9223372036854775807 := rfl
 have hl := h.len
 have key := loop_ind (A := Int × Int) (X := Option (Sum Int Unit)) (S := fun x kr => S65x0x9 N fs fs.length x.1 x.2 (fun a b => kr (a, b)) (fun p => some (.inl p)) (fun p => some (.inr p))) (L := fun m x => L65x0x9 N fs fs.length m x.1 x.2 (fun p => some (.inl p)) (fun p => some (.inr p))) (fun m x => rfl)
  (fun x => some (tmW (tmL x.1 (fs.drop x.2.toNat)))) (fun x => 0 ≤ x.2 ∧ x.2 ≤ fs.length ∧ 0 ≤ x.1 ∧ x.1 ≤ 255 * x.2) (fun x => (fs.length - x.2).toNat) ?_ N (0, 0) ⟨by decide, by show (0 : Int) ≤ _; omega, by decide, by decide⟩ (by simp; omega)
 ·have k2 : G65x0x9 N fs fs.length 0 0 = some (tmW (tmL 0 fs)) := by
   refine Eq.trans key ?_
   simp
  unfold G65x0 F65x0
  rw [k2]
  unfold tmW
  cases decide (tmL 0 fs < 0) <;> rfl
 ·rintro ⟨sz, w⟩ kr ⟨h0, h1, h2, h3⟩ ih
  simp only at h0 h1 h2 h3 ih ⊢
  unfold S65x0x9
  by_cases hw : w < fs.length
  ·have hf := h.size _ (getD_mem h0 hw)
   rw [decide_eq_true hw, inB_of h0 hw, drop_at (.i 0) h0 hw]
   simp only [_root_.cond_true, bnd_eq, V46x0_eq]
   have e1 : ((fs.getD w.toNat (.i 0)).cell 1).toI = fS (fs.getD w.toNat (.i 0)) := rfl
   rw [e1, wrapI (x := sz + _) (by omega) (by omega), wrapI (x := w + 1) (by omega) (by omega)]
   simp only [tmL]
   cases ht : isT (fs.getD w.toNat (.i 0)) with
   | true => simp only [_root_.cond_true]; unfold tmW; rw [decide_eq_false (by omega)]; rfl
   | false =>
    simp only [_root_.cond_false]
    exact ih (sz + fS (fs.getD w.toNat (.i 0)), w + 1) ⟨by omega, by omega, by simp only; omega, by simp only; omega⟩ (by simp only; omega)
  ·have : w = fs.length := by omega
   subst this
   rw [decide_eq_false hw, drop_end (by omega)]
   rfl
theorem G73x0_eq (hN : maxLen < N) (h : FldsOk fs) : G73x0 N fs = some (szL fs) := by
 have hm : maxLen = 9223372036854775807 := rfl
 have hl := h.len
 have key := loop_ind (A := Int × Int) (X := Option Int) (S := fun x kr => S73x0x9 N fs fs.length x.1 x.2 (fun a b => kr (a, b)) (fun p => some p)) (L := fun m x => L73x0x9 N fs fs.length m x.1 x.2 (fun p => some p)) (fun m x => rfl)
  (fun x => some (x.1 + szL (fs.drop x.2.toNat))) (fun x => 0 ≤ x.2 ∧ x.2 ≤ fs.length ∧ 0 ≤ x.1 ∧ x.1 ≤ 255 * x.2) (fun x => (fs.length - x.2).toNat) ?_ N (0, 0) ⟨by decide, by show (0 : Int) ≤ _; omega, by decide, by decide⟩ (by simp; omega)
 ·have k2 : G73x0x9 N fs fs.length 0 0 = some (szL fs) := by
   refine Eq.trans key ?_
   simp
  unfold G73x0 F73x0
  rw [k2]; rfl
 ·rintro ⟨sz, w⟩ kr ⟨h0, h1, h2, h3⟩ ih
  simp only at h0 h1 h2 h3 ih ⊢
  unfold S73x0x9
  by_cases hw : w < fs.length
  ·have hf := h.size _ (getD_mem h0 hw)
   rw [decide_eq_true hw, inB_of h0 hw, drop_at (.i 0) h0 hw]
   simp only [_root_.cond_true, bnd_eq]
   have e1 : ((fs.getD w.toNat (.i 0)).cell 1).toI = fS (fs.getD w.toNat (.i 0)) := rfl
   rw [e1, wrapI (x := sz + _) (by omega) (by omega), wrapI (x := w + 1) (by omega) (by omega)]
   rw [ih (sz + fS (fs.getD w.toNat (.i 0)), w + 1) ⟨by omega, by omega, by simp only; omega, by simp only; omega⟩ (by simp only; omega)]
   simp only [szL, Option.some.injEq]; omega
  ·have : w = fs.length := by omega
   subst this
   rw [decide_eq_false hw, drop_end (by omega)]
   simp only [_root_.cond_false, szL, Int.add_zero]
theorem flds_ok : ∀ {fs : List D} {t : Bool}, (∀ f ∈ fs, 0 ≤ fS f ∧ fS f ≤ 255) → (flds t fs).length ≤ fs.length ∧ ∀ f ∈ flds t fs, 0 ≤ fS f ∧ fS f ≤ 255
 | [], _, _ => by simp [flds]
 | f :: r, t, h => by
  have h1 := h f (by simp)
  have h2 : ∀ t, _ := fun t => flds_ok (fs := r) (t := t) fun x hx => h x (by simp [hx])
  simp only [flds]
  cases t && isT f with
  | true => simp only [_root_.cond_true, List.length_cons]; exact ⟨by have := (h2 false).1; omega, (h2 false).2⟩
  | false =>
   simp only [_root_.cond_false, List.length_cons]
   refine ⟨by have := (h2 t).1; omega, fun x hx => ?_⟩
   rcases List.mem_cons.1 hx with rfl | hx
   ·exact h1
   ·exact (h2 t).2 x hx
theorem FldsOk.flds (h : FldsOk fs) (t : Bool) : FldsOk (flds t fs) := ⟨Nat.le_trans (flds_ok h.size).1 h.len, (flds_ok h.size).2⟩
theorem G24x0_eq (hN : maxLen < N) (h : FldsOk fs) (t : Bool) : ∃ nl, G24x0 N fs t = some (nl, flds t fs) := by
 have hm : maxLen = 9223372036854775807 := rfl
 have hl := h.len
 have key := loop_indE (A := Bool × Int × Bool × LD) (X := Option (Bool × LD)) (S := fun x kr => S24x0x12 N fs fs.length x.1 x.2.1 x.2.2.1 x.2.2.2 (fun a b c d => kr (a, b, c, d)) (fun p => some p)) (L := fun m x => L24x0x12 N fs fs.length m x.1 x.2.1 x.2.2.1 x.2.2.2 (fun p => some p)) (fun m x => rfl)
  (fun x r => ∃ nl, r = some (nl, x.2.2.2 ++ Proofs.Ytfogaejiehebeaa.flds x.1 (fs.drop x.2.1.toNat))) (fun x => 0 ≤ x.2.1 ∧ x.2.1 ≤ fs.length ∧ (x.2.2.2.length : Int) ≤ x.2.1) (fun x => (fs.length - x.2.1).toNat) ?_ N (t, 0, true, []) ⟨by show (0 : Int) ≤ 0; omega, by show (0 : Int) ≤ _; omega, by simp⟩ (by simp; omega)
 ·obtain ⟨nl, k2⟩ := key
  have k3 : G24x0x12 N fs fs.length t 0 true [] = some (nl, Proofs.Ytfogaejiehebeaa.flds t fs) := by
   refine Eq.trans k2 ?_
   simp
  refine ⟨nl, ?_⟩
  unfold G24x0 F24x0
  rw [k3]; rfl
 ·rintro ⟨t, w, b, l⟩ kr ⟨h0, h1, h2⟩ ih
  simp only at h0 h1 h2 ih ⊢
  unfold S24x0x12
  by_cases hw : w < fs.length
  ·rw [decide_eq_true hw, inB_of h0 hw, drop_at (.i 0) h0 hw]
   have r1 : decide ((l.length + 1) * 24 ≤ room) = true := decide_eq_true (by unfold room; omega)
   have r2 : decide (l.length + 1 ≤ strMax) = true := decide_eq_true (by unfold strMax; omega)
   have hv : V24x0x19 N t ((fs.getD w.toNat (.i 0)).cell 0).toI ((fs.getD w.toNat (.i 0)).cell 1).toI ((fs.getD w.toNat (.i 0)).cell 2).toI = (t && isT (fs.getD w.toNat (.i 0))) := by
    unfold V24x0x19 F24x0x19
    simp only [bnd_eq, V46x0_eq]
    cases t <;> rfl
   simp only [_root_.cond_true, bnd_eq, hv, r1, r2, Bool.and_self, wrapI (x := w + 1) (by omega) (by omega), Proofs.Ytfogaejiehebeaa.flds]
   cases t && isT (fs.getD w.toNat (.i 0)) with
   | true =>
    simp only [_root_.cond_true]
    exact ih (false, w + 1, b, l) ⟨by simp only; omega, by simp only; omega, by simp only; omega⟩ (by simp only; omega)
   | false =>
    simp only [_root_.cond_false]
    obtain ⟨nl, e⟩ := ih (t, w + 1, false, l ++ [.a [.i (fN (fs.getD w.toNat (.i 0))), .i (fS (fs.getD w.toNat (.i 0))), .i (fT (fs.getD w.toNat (.i 0)))]]) ⟨by simp only; omega, by simp only; omega, by simp; omega⟩ (by simp only; omega)
    exact ⟨nl, by rw [← List.append_cons] at e; exact e⟩
  ·have : w = fs.length := by omega
   subst this
   rw [decide_eq_false hw, drop_end (by omega)]
   exact ⟨b, by simp [Proofs.Ytfogaejiehebeaa.flds]⟩
end
end Go.Proofs.Ytfogaejiehebeaa

namespace Go.Proofs.Ytfogaejiehebeaa
open Go Go.AM
set_option maxRecDepth 100000
set_option maxHeartbeats 4000000
variable {N : Nat}
theorem or_byte {n b : Nat} (hn : n < 1099511627776) (hb : b < 256) : (bitsV .or .i64 (IntKind.wrap .i64 ((n : Int) * 2 ^ 8)) (IntKind.wrap .i64 (b : Int))).getD 0 = 256 * (n : Int) + b := by
 have e1 : IntKind.wrap .i64 ((n : Int) * 2 ^ 8) = ((n * 256 : Nat) : Int) := by rw [wrapI (by omega) (by omega)]; omega
 have e2 : IntKind.wrap .i64 (b : Int) = (b : Int) := wrapI (by omega) (by omega)
 rw [e1, e2]
 have h64 : IntKind.bits .i64 = 64 := rfl
 have o : (BitVec.ofInt 64 ((n * 256 : Nat) : Int) ||| BitVec.ofInt 64 (b : Int)).toNat = n * 256 + b := by
  rw [BitVec.toNat_or, BitVec.ofInt_natCast, BitVec.ofInt_natCast, BitVec.toNat_ofNat, BitVec.toNat_ofNat, Nat.mod_eq_of_lt (by omega), Nat.mod_eq_of_lt (by omega)]
  have := Nat.shiftLeft_add_eq_or_of_lt (b := b) (i := 8) (by omega) n
  rw [Nat.shiftLeft_eq] at this
  exact this.symm
 show IntKind.wrap .i64 (((BitVec.ofInt 64 ((n * 256 : Nat) : Int) ||| BitVec.ofInt 64 (b : Int)).toNat : Nat) : Int) = _
 rw [o, wrapI (by omega) (by omega)]
 omega
def BytesOk (xs : List D) : Prop := ∀ x ∈ xs, 0 ≤ x.toI ∧ x.toI ≤ 255
def pkB (len : Int) (big : Bool) (i : Int) : Int := bif big then i else len - 1 - i
def numR (xs : List D) (big : Bool) : Nat → Int → Int → Int
 | 0, _, n => n
 | k + 1, i, n => numR xs big k (i + 1) (256 * n + (xs.getD (pkB xs.length big i).toNat (.i 0)).toI)
def numB (xs : List D) (big : Bool) : Int := numR xs big xs.length 0 0
theorem pow_step {n b i : Int} (h0 : 0 ≤ i) (h1 : 0 ≤ n) (h2 : n < 256 ^ i.toNat) (h3 : 0 ≤ b) (h4 : b ≤ 255) : 0 ≤ 256 * n + b ∧ 256 * n + b < 256 ^ (i + 1).toNat := by
 have e : (i + 1).toNat = i.toNat + 1 := by omega
 rw [e, Int.pow_succ]
 omega
theorem pow_le {n i : Int} (h0 : 0 ≤ i) (h1 : i ≤ 4) (h2 : n < 256 ^ i.toNat) : n < 4294967296 := by
 have : i = 0 ∨ i = 1 ∨ i = 2 ∨ i = 3 ∨ i = 4 := by omega
 rcases this with rfl | rfl | rfl | rfl | rfl <;> simp at h2 <;> omega
theorem getB {xs : List D} (h : BytesOk xs) {i : Int} (h0 : 0 ≤ i) (h1 : i < xs.length) : 0 ≤ (xs.getD i.toNat (.i 0)).toI ∧ (xs.getD i.toNat (.i 0)).toI ≤ 255 := h _ (getD_mem h0 h1)
section
variable {xs : List D}
theorem pkB_in {big : Bool} {i : Int} (h0 : 0 ≤ i) (h1 : i < xs.length) : 0 ≤ pkB xs.length big i ∧ pkB xs.length big i < xs.length := by
 unfold pkB; cases big <;> simp <;> omega
theorem numR_bound (hb : BytesOk xs) (big : Bool) : ∀ (k : Nat) (i n : Int), 0 ≤ i → i + k = xs.length → 0 ≤ n → n < 256 ^ i.toNat → 0 ≤ numR xs big k i n ∧ numR xs big k i n < 256 ^ xs.length
 | 0, i, n, h0, h1, h2, h3 => by
  have : i.toNat = xs.length := by omega
  rw [this] at h3
  exact ⟨h2, h3⟩
 | k + 1, i, n, h0, h1, h2, h3 => by
  obtain ⟨p0, p1⟩ := pkB_in (xs := xs) (big := big) h0 (by omega)
  obtain ⟨b0, b1⟩ := getB hb p0 p1
  obtain ⟨q0, q1⟩ := pow_step h0 h2 h3 b0 b1
  exact numR_bound hb big k (i + 1) _ (by omega) (by omega) q0 q1
theorem numB_bound (hb : BytesOk xs) (big : Bool) (hl : xs.length ≤ 4) : 0 ≤ numB xs big ∧ numB xs big < 4294967296 := by
 obtain ⟨h1, h2⟩ := numR_bound hb big xs.length 0 0 (by omega) (by omega) (by omega) (by simp)
 refine ⟨h1, ?_⟩
 have := pow_le (i := (xs.length : Int)) (by omega) (by omega) (n := numB xs big) (by unfold numB; simpa using h2)
 exact this
theorem G62x0_eq (hN : maxLen < N) (hb : BytesOk xs) (big : Bool) (hl : xs.length ≤ 4) : G62x0 N xs big = some (numB xs big) := by
 have hm : maxLen = 9223372036854775807 := rfl
 have key := loop_ind (A := Int × Int) (X := Option Int) (S := fun x kr => S62x0x9 N xs big xs.length x.1 x.2 (fun a b => kr (a, b)) (fun p => some p)) (L := fun m x => L62x0x9 N xs big xs.length m x.1 x.2 (fun p => some p)) (fun m x => rfl)
  (fun x => some (numR xs big (xs.length - x.2).toNat x.2 x.1)) (fun x => 0 ≤ x.2 ∧ x.2 ≤ xs.length ∧ 0 ≤ x.1 ∧ x.1 < 256 ^ x.2.toNat) (fun x => (xs.length - x.2).toNat) ?_ N (0, 0) ⟨by decide, by show (0 : Int) ≤ _; omega, by decide, by decide⟩ (by simp; omega)
 ·have k2 : G62x0x9 N xs big xs.length 0 0 = some (numB xs big) := by
   refine Eq.trans key ?_
   simp [numB]
  unfold G62x0 F62x0
  rw [k2]; rfl
 ·rintro ⟨n, i⟩ kr ⟨h0, h1, h2, h3⟩ ih
  simp only at h0 h1 h2 h3 ih ⊢
  unfold S62x0x9
  by_cases hw : i < xs.length
  ·obtain ⟨p0, p1⟩ := pkB_in (xs := xs) (big := big) h0 hw
   obtain ⟨b0, b1⟩ := getB hb p0 p1
   obtain ⟨q0, q1⟩ := pow_step h0 h2 h3 b0 b1
   have hn := pow_le h0 (by omega) h3
   have hv : V62x0x23 N i (IntKind.wrap .i64 ((IntKind.wrap .i64 ((xs.length : Int) - 1)) - i)) big = pkB xs.length big i := by
    rw [wrapI (x := (xs.length : Int) - 1) (by omega) (by omega), wrapI (x := (xs.length : Int) - 1 - i) (by omega) (by omega)]
    unfold V62x0x23 F62x0x23 pkB
    cases big <;> rfl
   have ho := or_byte (n := n.toNat) (b := (xs.getD (pkB xs.length big i).toNat (.i 0)).toI.toNat) (by omega) (by omega)
   rw [Int.toNat_of_nonneg h2, Int.toNat_of_nonneg b0] at ho
   rw [decide_eq_true hw]
   simp only [_root_.cond_true, bnd_eq, hv, inB_of p0 p1, ho, wrapI (x := i + 1) (by omega) (by omega)]
   rw [ih (_, i + 1) ⟨by simp only; omega, by simp only; omega, q0, q1⟩ (by simp only; omega)]
   have e : (xs.length - i).toNat = (xs.length - (i + 1)).toNat + 1 := by omega
   rw [e]
   rfl
  ·have : i = xs.length := by omega
   subst this
   rw [decide_eq_false hw]
   simp [numR]
theorem G64x0_eq (hN : maxLen < N) (hb : BytesOk xs) (big : Bool) (hl : xs.length ≤ 4) : G64x0 N xs big = some (numB xs big) := by
 have hm : maxLen = 9223372036854775807 := rfl
 have key := loop_ind (A := Int × Int) (X := Option Int) (S := fun x kr => S64x0x9 N xs big xs.length x.1 x.2 (fun a b => kr (a, b)) (fun p => some p)) (L := fun m x => L64x0x9 N xs big xs.length m x.1 x.2 (fun p => some p)) (fun m x => rfl)
  (fun x => some (numR xs big (xs.length - x.2).toNat x.2 x.1)) (fun x => 0 ≤ x.2 ∧ x.2 ≤ xs.length ∧ 0 ≤ x.1 ∧ x.1 < 256 ^ x.2.toNat) (fun x => (xs.length - x.2).toNat) ?_ N (0, 0) ⟨by decide, by show (0 : Int) ≤ _; omega, by decide, by decide⟩ (by simp; omega)
 ·have k2 : G64x0x9 N xs big xs.length 0 0 = some (numB xs big) := by
   refine Eq.trans key ?_
   simp [numB]
  unfold G64x0 F64x0
  rw [k2]; rfl
 ·rintro ⟨n, i⟩ kr ⟨h0, h1, h2, h3⟩ ih
  simp only at h0 h1 h2 h3 ih ⊢
  unfold S64x0x9
  by_cases hw : i < xs.length
  ·obtain ⟨p0, p1⟩ := pkB_in (xs := xs) (big := big) h0 hw
   obtain ⟨b0, b1⟩ := getB hb p0 p1
   obtain ⟨q0, q1⟩ := pow_step h0 h2 h3 b0 b1
   have hn := pow_le h0 (by omega) h3
   have hv : V64x0x23 N xs i i (!big) = pkB xs.length big i := by
    unfold V64x0x23 F64x0x23 pkB
    rw [wrapI (x := (xs.length : Int) - 1) (by omega) (by omega), wrapI (x := (xs.length : Int) - 1 - i) (by omega) (by omega)]
    cases big <;> rfl
   have ho : IntKind.wrap .i64 ((IntKind.wrap .i64 (256 * n)) + (IntKind.wrap .i64 (xs.getD (pkB xs.length big i).toNat (.i 0)).toI)) = 256 * n + (xs.getD (pkB xs.length big i).toNat (.i 0)).toI := by
    rw [wrapI (x := 256 * n) (by omega) (by omega), wrapI (x := (xs.getD (pkB xs.length big i).toNat (.i 0)).toI) (by omega) (by omega), wrapI (by omega) (by omega)]
   rw [decide_eq_true hw]
   simp only [_root_.cond_true, bnd_eq, hv, inB_of p0 p1, ho, wrapI (x := i + 1) (by omega) (by omega)]
   rw [ih (_, i + 1) ⟨by simp only; omega, by simp only; omega, q0, q1⟩ (by simp only; omega)]
   have e : (xs.length - i).toNat = (xs.length - (i + 1)).toNat + 1 := by omega
   rw [e]
   rfl
  ·have : i = xs.length := by omega
   subst this
   rw [decide_eq_false hw]
   simp [numR]
end
theorem missing4 : G41x0 N 4 false = some 4294967295 := by
 unfold G41x0 F41x0
 have e1 : IntKind.wrap .i64 (8 * 4) = 32 := by decide
 rw [e1]
 have e2 : IntKind.wrap .i64 (1 * 2 ^ (min (32 : Int).toNat 64)) = 4294967296 := by decide
 have e3 : IntKind.wrap .i64 ((4294967296 : Int) - 1) = 4294967295 := by decide
 simp only [_root_.cond_false, bnd_eq, e2, e3]
 rfl
structure Slots (p s : D) : Prop where
 known : ∀ j : Nat, j < 16 → (p.cell (0 + j * 6)).toB = (s.cell (0 + j * 1)).toB
 defs : ∀ j : Nat, j < 16 → (p.cell (0 + j * 6)).toB = true → FldsOk (p.cell (3 + j * 6)).items ∧ (p.cell (1 + j * 6)).toB = (s.cell (16 + j * 3)).toB ∧ (p.cell (2 + j * 6)).toI = (s.cell (17 + j * 3)).toI ∧
  (p.cell (3 + j * 6)).items = (s.cell (18 + j * 3)).items ∧ (p.cell (4 + j * 6)).toI = szL (p.cell (3 + j * 6)).items ∧ (p.cell (5 + j * 6)).toI = tmL 0 (p.cell (3 + j * 6)).items
structure Sim (p s : D) (k : Int) : Prop extends Slots p s where
 last : (p.cell 96).toI = (s.cell 64).toI
 lo : -1 ≤ (p.cell 96).toI
 hi : (p.cell 96).toI ≤ 4294967295 + 32 * k
structure EntL (ds data : List D) : Prop where
 d : ds.length ≤ maxLen
 b : data.length ≤ maxLen
 f : ∀ x ∈ ds, (x.cell 2).items.length ≤ maxLen
 y : BytesOk data
def entE (kind slot off : Int) (ds data : List D) (known : Bool) (size time last : Int) : Int :=
 bif !inI kind 1 3 then 7 else bif !inI slot 0 (bif kind == 3 then 3 else 15) || !inI off 0 (bif kind == 3 then 31 else 0) then 9 else
 bif kind == 1 then (bif ((ds.length : Int) != 1) || decide ((data.length : Int) > 0) then 2 else defE ((ds.getD 0 (.i 0)).cell 1).toI ((ds.getD 0 (.i 0)).cell 2).items) else
 bif (ds.length : Int) != 0 then 2 else bif !known || ((kind == 3) && (decide (time < 0) || decide (last < 0))) then 11 else bif (data.length : Int) != (bif kind == 3 then size - 4 else size) then 2 else 0
section
variable {kind slot off : Int} {ds data : List D} {p s : D} {k : Int}
theorem slot_in (h : inI slot 0 (bif kind == 3 then 3 else 15) = true) : inB slot 16 = true ∧ slot.toNat < 16 := by
 unfold inI at h
 cases hk : kind == 3 <;> rw [hk] at h <;> simp at h <;> exact ⟨inB_of (by omega) (by omega), by omega⟩
theorem G45x0_eq (hN : maxLen < N) (hs : Sim p s k) (he : EntL ds data) : G45x0 N kind slot off ds data p = some (entE kind slot off ds data (p.cell (0 + slot.toNat * 6)).toB (p.cell (4 + slot.toNat * 6)).toI (p.cell (5 + slot.toNat * 6)).toI (p.cell 96).toI) := by
 have hm : maxLen = 9223372036854775807 := rfl
 unfold G45x0 F45x0 entE V45x0x14 F45x0x14 V45x0x20 F45x0x20 V45x0x28 F45x0x28 V45x0x62 F45x0x62
 simp only [bnd_eq, V35x0_eq]
 cases h1 : inI kind 1 3 with
 | false => rfl
 | true =>
 have e14 : (bif kind == 3 then ((3 : Int), (31 : Int)) else (15, 0)) = ((bif kind == 3 then 3 else 15), (bif kind == 3 then 31 else 0)) := by cases kind == 3 <;> rfl
 rw [e14]
 simp only [Bool.not_true, _root_.cond_false]
 cases h2 : inI slot 0 (bif kind == 3 then 3 else 15) with
 | false => rfl
 | true =>
 obtain ⟨i1, i2⟩ := slot_in h2
 cases h3 : inI off 0 (bif kind == 3 then 31 else 0) with
 | false => rfl
 | true =>
 simp only [Bool.not_true, _root_.cond_false, Bool.or_self]
 by_cases hk : kind = 1
 ·subst hk
  simp only [beq_self_eq_true, _root_.cond_true]
  cases h4 : ((ds.length : Int) != 1) with
  | true => rfl
  | false =>
   have hl : ds.length = 1 := by simp at h4; omega
   cases decide ((data.length : Int) > 0) with
   | true => rfl
   | false =>
    have hmem : ds.getD 0 (.i 0) ∈ ds := getD_mem (w := 0) (by omega) (by omega)
    simp only [_root_.cond_false, Bool.or_self]
    rw [inB_of (by omega) (by omega), G71x0_eq hN _ (he.f _ hmem)]
    rfl
 ·have hk1 : (kind == 1) = false := by simpa using hk
  rw [hk1]
  simp only [_root_.cond_false]
  cases h4 : ((ds.length : Int) != 0) with
  | true => rfl
  | false =>
   simp only [_root_.cond_false, i1, _root_.cond_true]
   cases hkn : (p.cell (0 + slot.toNat * 6)).toB with
   | false => rfl
   | true =>
    obtain ⟨d1, _, _, _, d5, d6⟩ := hs.defs _ i2 hkn
    have hb := szL_bound d1.size
    have hl := d1.len
    cases hk3 : kind == 3 with
    | false =>
     simp only [Bool.not_true, _root_.cond_false, Bool.false_and, Bool.or_self]
     cases ((data.length : Int) != (p.cell (4 + slot.toNat * 6)).toI) <;> rfl
    | true =>
     simp only [Bool.not_true, _root_.cond_false, _root_.cond_true, Bool.true_and, Bool.false_or]
     cases decide ((p.cell (5 + slot.toNat * 6)).toI < 0) with
     | true => rfl
     | false =>
      cases decide ((p.cell 96).toI < 0) with
      | true => rfl
      | false =>
       simp only [_root_.cond_false, Bool.or_self]
       rw [wrapI (by omega) (by omega)]
       cases ((data.length : Int) != (p.cell (4 + slot.toNat * 6)).toI - 4) <;> rfl
theorem G50x0_eq (hN : maxLen < N) (hs : Sim p s k) (he : EntL ds data) : G50x0 N kind slot off ds data s = some (entE kind slot off ds data (p.cell (0 + slot.toNat * 6)).toB (p.cell (4 + slot.toNat * 6)).toI (p.cell (5 + slot.toNat * 6)).toI (p.cell 96).toI) := by
 have hm : maxLen = 9223372036854775807 := rfl
 unfold G50x0 F50x0 entE V50x0x17 F50x0x17 V50x0x19 F50x0x19
 simp only [bnd_eq, V49x0_eq]
 cases h1 : inI kind 1 3 with
 | false => rfl
 | true =>
 have e14 : (bif kind == 3 then ((3 : Int), (31 : Int)) else (15, 0)) = ((bif kind == 3 then 3 else 15), (bif kind == 3 then 31 else 0)) := by cases kind == 3 <;> rfl
 rw [e14]
 simp only [Bool.not_true, _root_.cond_false]
 cases h2 : inI slot 0 (bif kind == 3 then 3 else 15) with
 | false => rfl
 | true =>
 obtain ⟨i1, i2⟩ := slot_in h2
 cases h3 : inI off 0 (bif kind == 3 then 31 else 0) with
 | false => rfl
 | true =>
 simp only [Bool.not_true, _root_.cond_false, Bool.or_self]
 by_cases hk : kind = 1
 ·subst hk
  simp only [beq_self_eq_true, _root_.cond_true]
  cases h4 : ((ds.length : Int) != 1) with
  | true => rfl
  | false =>
   have hl : ds.length = 1 := by simp at h4; omega
   cases decide ((data.length : Int) > 0) with
   | true => rfl
   | false =>
    have hmem : ds.getD 0 (.i 0) ∈ ds := getD_mem (w := 0) (by omega) (by omega)
    simp only [_root_.cond_false, Bool.or_self]
    rw [inB_of (by omega) (by omega), G72x0_eq hN _ (he.f _ hmem)]
    rfl
 ·have hk1 : (kind == 1) = false := by simpa using hk
  have e0 : decide ((ds.length : Int) > 0) = ((ds.length : Int) != 0) := by rw [Bool.eq_iff_iff]; simp only [decide_eq_true_eq, bne_iff_ne]; omega
  rw [hk1, e0]
  simp only [_root_.cond_false]
  cases h4 : ((ds.length : Int) != 0) with
  | true => rfl
  | false =>
   simp only [_root_.cond_false, i1, _root_.cond_true, ← hs.known _ i2]
   cases hkn : (p.cell (0 + slot.toNat * 6)).toB with
   | false => rfl
   | true =>
    obtain ⟨d1, _, _, d4, d5, d6⟩ := hs.defs _ i2 hkn
    rw [← d4, ← hs.last, d5, d6, G65x0_eq hN d1]
    obtain ⟨nl, hf⟩ := G24x0_eq hN d1 (kind == 3)
    rw [hf]
    simp only [Option.isSome_some, getD_some, _root_.cond_true, G73x0_eq hN (d1.flds _)]
    have z := szL_flds (a := 0) (by omega) d1.size
    cases hk3 : kind == 3 with
    | false =>
     simp only [Bool.not_true, _root_.cond_false, Bool.false_and, Bool.or_self, szL_flds_false]
     cases ((data.length : Int) != szL (p.cell (3 + slot.toNat * 6)).items) <;> rfl
    | true =>
     by_cases ht : tmL 0 (p.cell (3 + slot.toNat * 6)).items < 0
     ·simp only [decide_eq_true ht, _root_.cond_true]; rfl
     ·simp only [decide_eq_false ht, _root_.cond_false, _root_.cond_true, Bool.not_true, Bool.true_and, Bool.false_or, z.2 (by omega)]
      cases decide ((p.cell 96).toI < 0) with
      | true => rfl
      | false =>
       simp only [_root_.cond_false]
       cases ((data.length : Int) != szL (p.cell (3 + slot.toNat * 6)).items - 4) <;> rfl
end
end Go.Proofs.Ytfogaejiehebeaa

namespace Go.Proofs.Ytfogaejiehebeaa
open Go Go.AM
set_option maxRecDepth 100000
set_option maxHeartbeats 4000000
variable {N : Nat}
structure EntOk (kind slot off : Int) (ds data : List D) (known : Bool) (size time last : Int) : Prop where
 k : 1 ≤ kind ∧ kind ≤ 3
 s : inB slot 16 = true ∧ slot.toNat < 16
 d : kind = 1 → ds.length = 1 ∧ defE ((ds.getD 0 (.i 0)).cell 1).toI ((ds.getD 0 (.i 0)).cell 2).items = 0
 n : kind ≠ 1 → known = true ∧ ds.length = 0
 h : kind = 3 → 0 ≤ time ∧ 0 ≤ last ∧ 0 ≤ off ∧ off ≤ 31 ∧ (data.length : Int) = size - 4
 t : kind = 2 → (data.length : Int) = size
section
variable {kind slot off : Int} {ds data : List D} {p s : D} {k : Int}
theorem entE_ok {known : Bool} {size time last : Int} (h : entE kind slot off ds data known size time last = 0) : EntOk kind slot off ds data known size time last := by
 unfold entE at h
 cases h1 : inI kind 1 3 with
 | false => rw [h1] at h; exact absurd (show (7 : Int) = 0 from h) (by decide)
 | true =>
 cases h2 : inI slot 0 (bif kind == 3 then 3 else 15) with
 | false => rw [h1, h2] at h; exact absurd (show (9 : Int) = 0 from h) (by decide)
 | true =>
 cases h3 : inI off 0 (bif kind == 3 then 31 else 0) with
 | false => rw [h1, h2, h3] at h; exact absurd (show (9 : Int) = 0 from h) (by decide)
 | true =>
 rw [h1, h2, h3] at h
 simp only [Bool.not_true, _root_.cond_false, Bool.or_self] at h
 have hkr : 1 ≤ kind ∧ kind ≤ 3 := by unfold inI at h1; simpa using h1
 by_cases hk : kind = 1
 ·subst hk
  simp only [beq_self_eq_true, _root_.cond_true] at h
  cases h4 : ((ds.length : Int) != 1) || decide ((data.length : Int) > 0) with
  | true => rw [h4] at h; exact absurd (show (2 : Int) = 0 from h) (by decide)
  | false =>
   rw [h4] at h
   simp only [Bool.or_eq_false_iff, bne_eq_false_iff_eq] at h4
   exact ⟨hkr, slot_in h2, fun _ => ⟨by omega, h⟩, fun hn => absurd rfl hn, fun h => by omega, fun h => by omega⟩
 ·have hk1 : (kind == 1) = false := by simpa using hk
  rw [hk1] at h
  simp only [_root_.cond_false] at h
  cases h4 : ((ds.length : Int) != 0) with
  | true => rw [h4] at h; exact absurd (show (2 : Int) = 0 from h) (by decide)
  | false =>
  rw [h4] at h
  simp only [_root_.cond_false] at h
  cases h5 : !known || ((kind == 3) && (decide (time < 0) || decide (last < 0))) with
  | true => rw [h5] at h; exact absurd (show (11 : Int) = 0 from h) (by decide)
  | false =>
  rw [h5] at h
  simp only [_root_.cond_false] at h
  cases h6 : ((data.length : Int) != (bif kind == 3 then size - 4 else size)) with
  | true => rw [h6] at h; exact absurd (show (2 : Int) = 0 from h) (by decide)
  | false =>
  simp only [bne_eq_false_iff_eq] at h4 h6
  simp only [Bool.or_eq_false_iff, Bool.not_eq_false'] at h5
  refine ⟨hkr, slot_in h2, fun h => absurd h hk, fun _ => ⟨h5.1, by omega⟩, fun h3' => ?_, fun h2' => ?_⟩
  ·subst h3'
   simp at h3 h5 h6
   unfold inI at h3
   simp at h3
   omega
  ·subst h2'
   simpa using h6
theorem put6 {a : Nat} {x0 x1 x2 x3 x4 x5 : D} (j : Nat) : let q := (((((p.put (0 + a * 6) x0).put (1 + a * 6) x1).put (2 + a * 6) x2).put (3 + a * 6) x3).put (4 + a * 6) x4).put (5 + a * 6) x5
  q.cell (0 + j * 6) = (if j = a then x0 else p.cell (0 + j * 6)) ∧ q.cell (1 + j * 6) = (if j = a then x1 else p.cell (1 + j * 6)) ∧ q.cell (2 + j * 6) = (if j = a then x2 else p.cell (2 + j * 6)) ∧
  q.cell (3 + j * 6) = (if j = a then x3 else p.cell (3 + j * 6)) ∧ q.cell (4 + j * 6) = (if j = a then x4 else p.cell (4 + j * 6)) ∧ q.cell (5 + j * 6) = (if j = a then x5 else p.cell (5 + j * 6)) := by
 simp only [cell_put]
 by_cases h : j = a
 ·subst h
  simp
 ·simp only [if_neg h]
  refine ⟨?_, ?_, ?_, ?_, ?_, ?_⟩ <;> rw [if_neg (by omega), if_neg (by omega), if_neg (by omega), if_neg (by omega), if_neg (by omega), if_neg (by omega)]
theorem put6_last {a : Nat} {x0 x1 x2 x3 x4 x5 : D} (ha : a < 16) : ((((((p.put (0 + a * 6) x0).put (1 + a * 6) x1).put (2 + a * 6) x2).put (3 + a * 6) x3).put (4 + a * 6) x4).put (5 + a * 6) x5).cell 96 = p.cell 96 := by
 simp only [cell_put]
 rw [if_neg (by omega), if_neg (by omega), if_neg (by omega), if_neg (by omega), if_neg (by omega), if_neg (by omega)]
theorem put4 {a : Nat} {x0 x1 x2 x3 : D} (ha : a < 16) (j : Nat) (hj : j < 16) : let q := (((s.put (0 + a * 1) x0).put (16 + a * 3) x1).put (17 + a * 3) x2).put (18 + a * 3) x3
  q.cell (0 + j * 1) = (if j = a then x0 else s.cell (0 + j * 1)) ∧ q.cell (16 + j * 3) = (if j = a then x1 else s.cell (16 + j * 3)) ∧ q.cell (17 + j * 3) = (if j = a then x2 else s.cell (17 + j * 3)) ∧
  q.cell (18 + j * 3) = (if j = a then x3 else s.cell (18 + j * 3)) ∧ q.cell 64 = s.cell 64 := by
 simp only [cell_put]
 refine ⟨?_, ?_, ?_, ?_, ?_⟩
 ·rw [if_neg (by omega), if_neg (by omega), if_neg (by omega)]
  by_cases h : j = a
  ·rw [if_pos (by omega), if_pos h]
  ·rw [if_neg (by omega), if_neg h]
 ·rw [if_neg (by omega), if_neg (by omega)]
  by_cases h : j = a
  ·rw [if_pos (by omega), if_pos h]
  ·rw [if_neg (by omega), if_neg (by omega), if_neg h]
 ·rw [if_neg (by omega)]
  by_cases h : j = a
  ·rw [if_pos (by omega), if_pos h]
  ·rw [if_neg (by omega), if_neg (by omega), if_neg (by omega), if_neg h]
 ·by_cases h : j = a
  ·rw [if_pos (by omega), if_pos h]
  ·rw [if_neg (by omega), if_neg (by omega), if_neg (by omega), if_neg (by omega), if_neg h]
 ·rw [if_neg (by omega), if_neg (by omega), if_neg (by omega), if_neg (by omega)]
theorem Slots.last (h : Slots p s) {x : D} : Slots p (s.put 64 x) := by
 have c2 : ∀ j : Nat, j < 16 → (s.put 64 x).cell (0 + j * 1) = s.cell (0 + j * 1) ∧ (s.put 64 x).cell (16 + j * 3) = s.cell (16 + j * 3) ∧ (s.put 64 x).cell (17 + j * 3) = s.cell (17 + j * 3) ∧ (s.put 64 x).cell (18 + j * 3) = s.cell (18 + j * 3) := fun j hj => by
  refine ⟨?_, ?_, ?_, ?_⟩ <;> rw [cell_put, if_neg (by omega)]
 refine ⟨fun j hj => ?_, fun j hj hk => ?_⟩
 ·rw [(c2 j hj).1]; exact h.known j hj
 ·rw [(c2 j hj).2.1, (c2 j hj).2.2.1, (c2 j hj).2.2.2]
  exact h.defs j hj hk
theorem Sim.more (h : Sim p s k) : Sim p s (k + 1) := ⟨h.toSlots, h.last, h.lo, by have := h.hi; omega⟩
theorem slice_ok {t : Int} (h0 : 0 ≤ t) (h1 : t + 4 ≤ data.length) (hl : data.length ≤ maxLen) (hb : BytesOk data) : IntKind.wrap .i64 (t + 4) = t + 4 ∧ ((data.take (t + 4).toNat).drop t.toNat).length = 4 ∧ BytesOk ((data.take (t + 4).toNat).drop t.toNat) := by
 have hm : maxLen = 9223372036854775807 := rfl
 exact ⟨wrapI (by omega) (by omega), by simp; omega, fun x hx => hb x (List.mem_of_mem_take (List.mem_of_mem_drop hx))⟩
end
end Go.Proofs.Ytfogaejiehebeaa

namespace Go.Proofs.Ytfogaejiehebeaa
open Go Go.AM
set_option maxRecDepth 100000
set_option maxHeartbeats 4000000
variable {N : Nat}
def EntD (x : D) : Prop := EntL (x.cell 3).items (x.cell 4).items
def zeroS : D := .a (List.replicate 16 (.b false) ++ (List.replicate 16 [D.b false, D.i 0, D.l true []]).flatten ++ [.i (-1)])
section
variable {es : List D}
end
end Go.Proofs.Ytfogaejiehebeaa

namespace Go.Proofs.Ytfogaejiehebeaa
open Go Go.AM
set_option maxRecDepth 100000
set_option maxHeartbeats 4000000
set_option linter.unusedVariables false
variable {N : Nat}
section
variable {es : List D}
end
end Go.Proofs.Ytfogaejiehebeaa

namespace Go.Proofs.Ytfogaejiehebeaa
open Go Go.AM
set_option maxRecDepth 100000
set_option maxHeartbeats 4000000
set_option linter.unusedVariables false
variable {N : Nat}
section
variable {bs : List D}
theorem BytesOk.drop (hb : BytesOk bs) (a : Nat) : BytesOk (bs.drop a) := fun x hx => hb x (List.mem_of_mem_drop hx)
def by_ (bs : List D) (i : Int) : Int := (bs.getD i.toNat (.i 0)).toI
end
end Go.Proofs.Ytfogaejiehebeaa

namespace Go.Proofs.Ytfogaejiehebeaa
open Go Go.AM
set_option maxRecDepth 100000
set_option maxHeartbeats 4000000
set_option linter.unusedVariables false
variable {N : Nat}
section
variable {bs : List D}
end
end Go.Proofs.Ytfogaejiehebeaa

namespace Go.Proofs.Ytfogaejiehebeaa
open Go Go.AM
set_option maxRecDepth 100000
set_option maxHeartbeats 4000000
set_option linter.unusedVariables false
variable {N : Nat}
section
variable {bs : List D} {p s : D}
end
end Go.Proofs.Ytfogaejiehebeaa

namespace Go.Proofs.Ytfogaejiehebeaa
open Go Go.AM
set_option maxRecDepth 100000
set_option maxHeartbeats 4000000
set_option linter.unusedVariables false
variable {N : Nat}
section
variable {bs : List D} {p s : D}
end
end Go.Proofs.Ytfogaejiehebeaa

namespace Go.Proofs.Ytfogaejiehebeaa
open Go Go.AM
set_option maxRecDepth 100000
set_option maxHeartbeats 4000000
set_option linter.unusedVariables false
variable {N : Nat}
section
variable {bs : List D} {p s : D}
end
end Go.Proofs.Ytfogaejiehebeaa

namespace Go.Proofs.Ytfogaejiehebeaa
open Go Go.AM
set_option maxRecDepth 100000
set_option maxHeartbeats 4000000
set_option linter.unusedVariables false
variable {N : Nat}
section
variable {b : List D}
structure Lst (l : List D) : Prop where
 e : ∀ x ∈ l, EntD x
 n : l.length ≤ 10000000
theorem Lst.nil : Lst [] := ⟨by simp, by simp⟩
end
end Go.Proofs.Ytfogaejiehebeaa

namespace Go.Proofs.Ytfogaejiehebeaa
open Go Go.AM
set_option maxRecDepth 100000
set_option maxHeartbeats 4000000
set_option linter.unusedVariables false
variable {N : Nat}
section
variable {b : List D}
end
end Go.Proofs.Ytfogaejiehebeaa

namespace Go.Proofs.Ytfogaejiehebeaa
open Go Go.AM
set_option maxRecDepth 100000
set_option maxHeartbeats 4000000
set_option linter.unusedVariables false
variable {N : Nat}
theorem zipAll_true : ∀ xs : List D, zipAll (fun _ _ => true) xs xs = true
 | [] => rfl
 | x :: r => by simp only [zipAll, Bool.true_and]; exact zipAll_true r
theorem inB_mem {xs : List D} {w : Int} (h : inB w xs.length = true) : xs.getD w.toNat (.i 0) ∈ xs := by
 unfold inB at h
 simp at h
 exact getD_mem h.1 h.2
theorem refl_ind {xs : List D} {S : Int → (Int → Option (Sum Unit Unit)) → Option (Sum Unit Unit)} {L : Nat → Int → Option (Sum Unit Unit)} (hL : ∀ m a, L (m + 1) a = S a (L m)) (hlen : xs.length ≤ maxLen)
  (hend : ∀ kr, S xs.length kr = some (.inr ()))
  (hstep : ∀ (w : Int) (kr : Int → Option (Sum Unit Unit)), decide (w < xs.length) = true → inB w xs.length = true → xs.getD w.toNat (.i 0) ∈ xs → S w kr = kr (IntKind.wrap .i64 (w + 1)))
  (hN : maxLen < N) : L N 0 = some (.inr ()) := by
 have := zip_ind (xs := xs) (ys := xs) (fun _ _ => true) hL hlen rfl hend (fun w kr h1 h2 _ => by rw [hstep w kr h1 h2 (inB_mem h2)]; rfl) hN
 rw [this, zipAll_true]
 rfl
section
variable {xs : List D}
theorem len_self (xs : List D) : ((xs.length : Int) != (xs.length : Int)) = false := by simp
theorem G140_refl (hN : maxLen < N) (hl : xs.length ≤ maxLen) : G60x0 N xs xs = some true := by
 have k : G60x0x12 N xs xs xs.length 0 = some (.inr ()) := by
  refine refl_ind (S := fun w kr => S60x0x12 N xs xs xs.length w kr _ _) (L := fun m w => L60x0x12 N xs xs xs.length m w _ _) (fun m w => rfl) hl (fun kr => by simp [S60x0x12]) (fun w kr h1 h2 h3 => ?_) hN
  unfold S60x0x12
  rw [h1, h2]
  simp [bnd_eq]
 unfold G60x0 F60x0
 rw [len_self, k]; rfl
theorem G25_refl (hN : maxLen < N) (hl : xs.length ≤ maxLen) : G34x0 N xs xs = some true := by
 have k : G34x0x12 N xs xs xs.length 0 = some (.inr ()) := by
  refine refl_ind (S := fun w kr => S34x0x12 N xs xs xs.length w kr _ _) (L := fun m w => L34x0x12 N xs xs xs.length m w _ _) (fun m w => rfl) hl (fun kr => by simp [S34x0x12]) (fun w kr h1 h2 h3 => ?_) hN
  unfold S34x0x12
  rw [h1, h2]
  simp [bnd_eq]
 unfold G34x0 F34x0
 rw [len_self, k]; rfl
theorem G104_refl (hN : maxLen < N) (hl : xs.length ≤ maxLen) (a : Bool) (g : Int) : G33x0 N a g xs a g xs = some true := by
 unfold G33x0 F33x0 G33x0x4 F33x0x4
 rw [G140_refl hN hl]
 simp [bnd_eq]
end
end Go.Proofs.Ytfogaejiehebeaa

namespace Go.Proofs.Ytfogaejiehebeaa
open Go Go.AM
set_option maxRecDepth 100000
set_option maxHeartbeats 4000000
set_option linter.unusedVariables false
variable {N : Nat}
abbrev kX (x : D) : Int := (x.cell 0).toI
abbrev sX (x : D) : Int := (x.cell 1).toI
abbrev oX (x : D) : Int := (x.cell 2).toI
abbrev dX (x : D) : List D := (x.cell 3).items
abbrev bX (x : D) : List D := (x.cell 4).items
structure Ab where
 kn : Nat → Bool
 bg : Nat → Bool
 gl : Nat → Int
 fs : Nat → List D
 last : Int
def Ab.start : Ab := ⟨fun _ => false, fun _ => false, fun _ => 0, fun _ => [], -1⟩
def upA {α : Type} (f : Nat → α) (j : Nat) (x : α) : Nat → α := fun i => if i = j then x else f i
def timeC (a : Ab) (kind slot off : Int) (data : List D) : Int :=
 bif kind == 1 then -1 else bif kind == 3 then a.last + (off - a.last % 32 + 32) % 32 else
 bif decide (tmL 0 (a.fs slot.toNat) < 0) then -1 else
 bif numB ((data.take (tmL 0 (a.fs slot.toNat) + 4).toNat).drop (tmL 0 (a.fs slot.toNat)).toNat) (a.bg slot.toNat) == 4294967295 then -1 else numB ((data.take (tmL 0 (a.fs slot.toNat) + 4).toNat).drop (tmL 0 (a.fs slot.toNat)).toNat) (a.bg slot.toNat)
def stepD (a : Ab) (kind slot off : Int) (ds data : List D) : Ab :=
 bif kind == 1 then { a with kn := upA a.kn slot.toNat true, bg := upA a.bg slot.toNat ((ds.getD 0 (.i 0)).cell 0).toB, gl := upA a.gl slot.toNat ((ds.getD 0 (.i 0)).cell 1).toI, fs := upA a.fs slot.toNat ((ds.getD 0 (.i 0)).cell 2).items } else
 { a with last := bif decide (timeC a kind slot off data ≥ 0) then timeC a kind slot off data else a.last }
abbrev timeE (a : Ab) (x : D) : Int := timeC a (kX x) (sX x) (oX x) (bX x)
abbrev stepA (a : Ab) (x : D) : Ab := stepD a (kX x) (sX x) (oX x) (dX x) (bX x)
def errC (a : Ab) (kind slot off : Int) (ds data : List D) : Int := entE kind slot off ds data (a.kn slot.toNat) (szL (a.fs slot.toNat)) (tmL 0 (a.fs slot.toNat)) a.last
abbrev errE (a : Ab) (x : D) : Int := errC a (kX x) (sX x) (oX x) (dX x) (bX x)
structure SlP (p : D) (a : Ab) : Prop where
 kn : ∀ j : Nat, j < 16 → (p.cell (0 + j * 6)).toB = a.kn j
 df : ∀ j : Nat, j < 16 → a.kn j = true → FldsOk (a.fs j) ∧ (p.cell (1 + j * 6)).toB = a.bg j ∧ (p.cell (2 + j * 6)).toI = a.gl j ∧ (p.cell (3 + j * 6)).items = a.fs j ∧ (p.cell (4 + j * 6)).toI = szL (a.fs j) ∧ (p.cell (5 + j * 6)).toI = tmL 0 (a.fs j)
structure SlS (s : D) (a : Ab) : Prop where
 kn : ∀ j : Nat, j < 16 → (s.cell (0 + j * 1)).toB = a.kn j
 df : ∀ j : Nat, j < 16 → a.kn j = true → (s.cell (16 + j * 3)).toB = a.bg j ∧ (s.cell (17 + j * 3)).toI = a.gl j ∧ (s.cell (18 + j * 3)).items = a.fs j
structure Wk (p s : D) (a : Ab) (k : Int) : Prop where
 pp : SlP p a
 ss : SlS s a
 lp : (p.cell 96).toI = a.last
 ls : (s.cell 64).toI = a.last
 lo : -1 ≤ a.last
 hi : a.last ≤ 4294967295 + 32 * k
theorem slots_of {p s : D} {a : Ab} (hp : SlP p a) (hs : SlS s a) : Slots p s :=
 ⟨fun j hj => by rw [hp.kn j hj, hs.kn j hj], fun j hj hk => by
  rw [hp.kn j hj] at hk
  obtain ⟨p1, p2, p3, p4, p5, p6⟩ := hp.df j hj hk
  obtain ⟨s1, s2, s3⟩ := hs.df j hj hk
  rw [p2, p3, p4, p5, p6, s1, s2, s3]
  exact ⟨p1, rfl, rfl, rfl, rfl, rfl⟩⟩
theorem Wk.sim {p s : D} {a : Ab} {k : Int} (h : Wk p s a k) : Sim p s k := ⟨slots_of h.pp h.ss, by rw [h.lp, h.ls], by rw [h.lp]; exact h.lo, by rw [h.lp]; exact h.hi⟩
theorem entE_known {kind slot off : Int} {ds data : List D} {size time size' time' last : Int} : entE kind slot off ds data false size time last = entE kind slot off ds data false size' time' last := by
 unfold entE; rfl
theorem err_of {p : D} {a : Ab} (hp : SlP p a) (lp : (p.cell 96).toI = a.last) {kind slot off : Int} {ds data : List D} : entE kind slot off ds data (p.cell (0 + slot.toNat * 6)).toB (p.cell (4 + slot.toNat * 6)).toI (p.cell (5 + slot.toNat * 6)).toI (p.cell 96).toI = errC a kind slot off ds data := by
 unfold errC
 rw [lp]
 by_cases h1 : inI slot 0 (bif kind == 3 then 3 else 15) = true
 ·obtain ⟨_, h2⟩ := slot_in h1
  rw [hp.kn _ h2]
  cases hk : a.kn slot.toNat with
  | false => exact entE_known
  | true =>
   obtain ⟨_, _, _, _, p5, p6⟩ := hp.df _ h2 hk
   rw [p5, p6]
 ·have h1 : inI slot 0 (bif kind == 3 then 3 else 15) = false := by simpa using h1
  unfold entE
  rw [h1]
  rfl
section
variable {kind slot off : Int} {ds data : List D} {p s : D} {a : Ab} {k : Int}
theorem slP_put (hp : SlP p a) {j : Nat} (i2 : j < 16) {big : Bool} {g : Int} {nl : Bool} {fs : List D} (hf : FldsOk fs) {last : Int} :
  SlP ((((((p.put (0 + j * 6) (.b true)).put (1 + j * 6) (.b big)).put (2 + j * 6) (.i g)).put (3 + j * 6) (.l nl fs)).put (4 + j * 6) (.i (szL fs))).put (5 + j * 6) (.i (tmL 0 fs))) { kn := upA a.kn j true, bg := upA a.bg j big, gl := upA a.gl j g, fs := upA a.fs j fs, last := last } := by
 refine ⟨fun i hi => ?_, fun i hi hkn => ?_⟩
 ·rw [(put6 i).1]
  unfold upA
  by_cases h : i = j
  ·simp only [if_pos h]; rfl
  ·simp only [if_neg h]; exact hp.kn i hi
 ·obtain ⟨a0, a1, a2, a3, a4, a5⟩ := put6 (p := p) (a := j) (x0 := .b true) (x1 := .b big) (x2 := .i g) (x3 := .l nl fs) (x4 := .i (szL fs)) (x5 := .i (tmL 0 fs)) i
  rw [a1, a2, a3, a4, a5]
  unfold upA at hkn ⊢
  by_cases h : i = j
  ·simp only [if_pos h]
   refine ⟨hf, ?_, ?_, ?_, ?_, ?_⟩ <;> first | trivial | rfl
  ·simp only [if_neg h] at hkn ⊢
   exact hp.df i hi hkn
theorem slS_put (hs : SlS s a) {j : Nat} (i2 : j < 16) {big : Bool} {g : Int} {nl : Bool} {fs : List D} {last : Int} :
  SlS ((((s.put (0 + j * 1) (.b true)).put (16 + j * 3) (.b big)).put (17 + j * 3) (.i g)).put (18 + j * 3) (.l nl fs)) { kn := upA a.kn j true, bg := upA a.bg j big, gl := upA a.gl j g, fs := upA a.fs j fs, last := last } := by
 refine ⟨fun i hi => ?_, fun i hi hkn => ?_⟩
 ·rw [(put4 i2 i hi).1]
  unfold upA
  by_cases h : i = j
  ·simp only [if_pos h]; rfl
  ·simp only [if_neg h]; exact hs.kn i hi
 ·obtain ⟨b0, b1, b2, b3, _⟩ := put4 (s := s) (x0 := .b true) (x1 := .b big) (x2 := .i g) (x3 := .l nl fs) i2 i hi
  rw [b1, b2, b3]
  unfold upA at hkn ⊢
  by_cases h : i = j
  ·simp only [if_pos h]
   refine ⟨?_, ?_, ?_⟩ <;> first | trivial | rfl
  ·simp only [if_neg h] at hkn ⊢
   exact hs.df i hi hkn
theorem slP_last (hp : SlP p a) {x : D} {l : Int} : SlP (p.put 96 x) { a with last := l } := by
 have c1 : ∀ c j : Nat, c < 6 → j < 16 → (p.put 96 x).cell (c + j * 6) = p.cell (c + j * 6) := fun c j hc hj => by rw [cell_put, if_neg (by omega)]
 refine ⟨fun j hj => ?_, fun j hj hk => ?_⟩
 ·rw [c1 0 j (by omega) hj]; exact hp.kn j hj
 ·rw [c1 1 j (by omega) hj, c1 2 j (by omega) hj, c1 3 j (by omega) hj, c1 4 j (by omega) hj, c1 5 j (by omega) hj]
  exact hp.df j hj hk
theorem slS_last (hs : SlS s a) {x : D} {l : Int} : SlS (s.put 64 x) { a with last := l } := by
 have c2 : ∀ j : Nat, j < 16 → (s.put 64 x).cell (0 + j * 1) = s.cell (0 + j * 1) ∧ (s.put 64 x).cell (16 + j * 3) = s.cell (16 + j * 3) ∧ (s.put 64 x).cell (17 + j * 3) = s.cell (17 + j * 3) ∧ (s.put 64 x).cell (18 + j * 3) = s.cell (18 + j * 3) := fun j hj => by
  refine ⟨?_, ?_, ?_, ?_⟩ <;> rw [cell_put, if_neg (by omega)]
 refine ⟨fun j hj => ?_, fun j hj hk => ?_⟩
 ·rw [(c2 j hj).1]; exact hs.kn j hj
 ·rw [(c2 j hj).2.1, (c2 j hj).2.2.1, (c2 j hj).2.2.2]
  exact hs.df j hj hk
theorem Wk.put (h : Wk p s a k) {t : Int} (h0 : 0 ≤ t) (h1 : t ≤ 4294967295 + 32 * (k + 1)) : Wk (p.put 96 (.i t)) (s.put 64 (.i t)) { a with last := t } (k + 1) :=
 ⟨slP_last h.pp, slS_last h.ss, by simp [cell_put, D.toI], by simp [cell_put, D.toI], by simp only; omega, h1⟩
theorem Wk.more (h : Wk p s a k) : Wk p s a (k + 1) := ⟨h.pp, h.ss, h.lp, h.ls, h.lo, by have := h.hi; omega⟩
theorem take_abs (hN : maxLen < N) (hs : Wk p s a k) (he : EntL ds data) (h0 : 0 ≤ k) (h1 : k ≤ 100000) (hE : errC a kind slot off ds data = 0) :
  ∃ p' s', G37x0 N kind slot off ds data p = some (timeC a kind slot off data, p') ∧ G40x0 N kind slot off ds data s = some (timeC a kind slot off data, s') ∧ Wk p' s' (stepD a kind slot off ds data) (k + 1) := by
 have hm : maxLen = 9223372036854775807 := rfl
 have hE := entE_ok hE
 obtain ⟨i1, i2⟩ := hE.s
 unfold G37x0 F37x0 G37x0x15014 F37x0x15014 G40x0 F40x0 stepD timeC
 have e38 : ∀ q, V37x0x38 N (-1) false q = q := fun q => rfl
 rw [i1]
 by_cases hk1 : kind = 1
 ·subst hk1
  obtain ⟨d1, d2⟩ := hE.d rfl
  have hf := defE_ok d2
  have q1 := G61x0_eq hN hf
  simp only [beq_self_eq_true, _root_.cond_true, inB_of (i := 0) (n := ds.length) (by omega) (by omega), bnd_eq, q1, Option.isSome_some, getD_some]
  have e1 : decide ((-1 : Int) ≥ 0) = false := by decide
  rw [e1, e38]
  refine ⟨_, _, rfl, rfl, ?_⟩
  refine ⟨slP_put hs.pp i2 hf, slS_put hs.ss i2, ?_, ?_, hs.lo, by have := hs.hi; simp only; omega⟩
  ·rw [put6_last i2]; exact hs.lp
  ·rw [(put4 i2 0 (by omega)).2.2.2.2]; exact hs.ls
 ·have hk1' : (kind == 1) = false := by simpa using hk1
  obtain ⟨kn, _⟩ := hE.n hk1
  obtain ⟨d1, d2, d3, d4, d5, d6⟩ := hs.pp.df _ i2 kn
  obtain ⟨s2, s3, s4⟩ := hs.ss.df _ i2 kn
  unfold G37x0x21020 F37x0x21020
  rw [hk1']
  simp only [_root_.cond_false, bnd_eq, hs.lp, hs.ls, d2, d6, s2, s4]
  have hlo := hs.lo
  have hhi := hs.hi
  by_cases hk3 : kind = 3
  ·subst hk3
   obtain ⟨t0, l0, o0, o1, _⟩ := hE.h rfl
   have m0 : a.last.tmod 32 = a.last % 32 := Int.tmod_eq_emod_of_nonneg l0
   have w1 : IntKind.wrap .i64 (off - a.last % 32) = off - a.last % 32 := wrapI (by omega) (by omega)
   have w2 : IntKind.wrap .i64 (off - a.last % 32 + 32) = off - a.last % 32 + 32 := wrapI (by omega) (by omega)
   have m1 : (off - a.last % 32 + 32).tmod 32 = (off - a.last % 32 + 32) % 32 := Int.tmod_eq_emod_of_nonneg (by omega)
   have w3 : IntKind.wrap .i64 (a.last + (off - a.last % 32 + 32) % 32) = a.last + (off - a.last % 32 + 32) % 32 := wrapI (by omega) (by omega)
   simp only [beq_self_eq_true, _root_.cond_true, m0, w1, w2, m1, w3, Option.isSome_some, getD_some, V37x0x38, F37x0x38]
   rw [decide_eq_true (show a.last + (off - a.last % 32 + 32) % 32 ≥ 0 by omega)]
   simp only [_root_.cond_true]
   refine ⟨_, _, rfl, ?_, hs.put (t := a.last + (off - a.last % 32 + 32) % 32) (by omega) (by omega)⟩
   rw [cell_put, if_pos rfl]
   rfl
  ·have hk2 : kind = 2 := by have := hE.k; omega
   subst hk2
   have hlen := hE.t rfl
   have e3 : ((2 : Int) == 3) = false := by decide
   rw [e3]
   unfold G37x0x26 F37x0x26
   rw [G65x0_eq hN d1]
   have tb := tmL_bound (a := 0) (by omega) d1.size
   by_cases ht : tmL 0 (a.fs slot.toNat) < 0
   ·rw [decide_eq_true ht, decide_eq_false (by omega : ¬ tmL 0 (a.fs slot.toNat) ≥ 0)]
    have e1 : decide ((-1 : Int) ≥ 0) = false := by decide
    refine ⟨p, s, ?_, ?_, hs.more⟩
    ·rfl
    ·rfl
   ·rw [decide_eq_false ht, decide_eq_true (by omega : tmL 0 (a.fs slot.toNat) ≥ 0)]
    have h4 : tmL 0 (a.fs slot.toNat) + 4 ≤ data.length := by rw [hlen]; omega
    generalize tmL 0 (a.fs slot.toNat) = tm at ht h4 ⊢
    obtain ⟨s1, s2, s3⟩ := slice_ok (by omega) h4 he.b he.y
    have nb := numB_bound s3 (a.bg slot.toNat) (by omega)
    have c0 : decide ((0 : Int) ≤ tm) = true := decide_eq_true (by omega)
    have c1 : decide (tm ≤ tm + 4) = true := decide_eq_true (by omega)
    have c2 : decide (tm + 4 ≤ (data.length : Int)) = true := decide_eq_true (by omega)
    have q1 := G62x0_eq hN s3 (a.bg slot.toNat) (by omega)
    have q2 := G64x0_eq hN s3 (a.bg slot.toNat) (by omega)
    simp only [_root_.cond_true, _root_.cond_false, bnd_eq, Bool.and_self, s1, c0, c1, c2, q1, q2, missing4, Option.isSome_some, getD_some, V37x0x32, F37x0x32, Bool.not_true, V37x0x38, F37x0x38]
    generalize numB ((data.take (tm + 4).toNat).drop tm.toNat) (a.bg slot.toNat) = n at nb ⊢
    by_cases hn : n = 4294967295
    ·subst hn
     exact ⟨p, s, rfl, rfl, hs.more⟩
    ·have e4 : (n != 4294967295) = true := by simpa using hn
     have e5 : (n == 4294967295) = false := by simpa using hn
     rw [e4, e5]
     simp only [_root_.cond_true, _root_.cond_false]
     rw [decide_eq_true (show n ≥ 0 by omega)]
     simp only [_root_.cond_true]
     exact ⟨_, _, rfl, rfl, hs.put (by omega) (by omega)⟩
end
def errsA : Ab → List D → Int
 | _, [] => 0
 | a, x :: r => bif errE a x != 0 then errE a x else errsA (stepA a x) r
def timesA : Ab → List D → List Int
 | _, [] => []
 | a, x :: r => timeE a x :: timesA (stepA a x) r
theorem start_wk {p : D} (hp : (List.range 16).all (fun j => !(p.cell (0 + j * 6)).toB && !(zeroS.cell (0 + j * 1)).toB) = true) (hl : (p.cell 96).toI = -1) : Wk p zeroS Ab.start 0 := by
 have h : ∀ j : Nat, j < 16 → (p.cell (0 + j * 6)).toB = false ∧ (zeroS.cell (0 + j * 1)).toB = false := fun j hj => by
  have := List.all_eq_true.1 hp j (List.mem_range.2 hj)
  simpa using this
 exact ⟨⟨fun j hj => (h j hj).1, fun j hj hk => absurd hk (by simp [Ab.start])⟩, ⟨fun j hj => (h j hj).2, fun j hj hk => absurd hk (by simp [Ab.start])⟩, hl, by kernel_rfl, by decide, by decide⟩
theorem start70 : Wk (V36x0 N) zeroS Ab.start 0 := start_wk (by kernel_rfl) (by kernel_rfl)
def fileE (es : List D) : Int := bif decide ((es.length : Int) > 50000) then 3 else errsA Ab.start es
section
variable {es : List D}
theorem check_loopA (hN : maxLen < N) (hes : ∀ x ∈ es, EntD x) (hl : es.length ≤ 50000) : ∀ (m : Nat) (i : Int) (p s : D) (a : Ab), 0 ≤ i → i ≤ es.length → (es.length - i).toNat < m → Wk p s a i →
  L23x0x15 N es es.length m i p (fun p => some (Sum.inl p)) (fun p => some (Sum.inr p)) = some (bif errsA a (es.drop i.toNat) != 0 then .inl (errsA a (es.drop i.toNat)) else .inr ()) ∧
  L27x0x15 N es es.length m i s (fun p => some (Sum.inl p)) (fun p => some (Sum.inr p)) = some (bif errsA a (es.drop i.toNat) != 0 then .inl (errsA a (es.drop i.toNat)) else .inr ()) := by
 intro m
 induction m with
 | zero => intro i p s a _ _ h; omega
 | succ m ih =>
  intro i p s a h0 h1 hm hs
  unfold L23x0x15 L27x0x15 S23x0x15 S27x0x15
  by_cases hi : i < es.length
  ·have he : EntD _ := hes _ (getD_mem (fs := es) h0 hi)
   rw [decide_eq_true hi, inB_of h0 hi, G45x0_eq hN hs.sim he, G50x0_eq hN hs.sim he, err_of hs.pp hs.lp, drop_at (.i 0) h0 hi]
   simp only [_root_.cond_true, bnd_eq, Option.isSome_some, getD_some, errsA]
   cases hz : (errE a (es.getD i.toNat (.i 0)) != 0) with
   | false =>
    have hz' : errE a (es.getD i.toNat (.i 0)) = 0 := by simpa using hz
    obtain ⟨p', s', q1, q2, hs'⟩ := take_abs hN hs he h0 (by omega) hz'
    rw [q1, q2]
    simp only [_root_.cond_false, Option.isSome_some, _root_.cond_true, getD_some, wrapI (x := i + 1) (by omega) (by omega)]
    exact ih (i + 1) p' s' _ (by omega) (by omega) (by omega) hs'
   | true =>
    simp only [_root_.cond_true, hz]
    exact ⟨trivial, trivial⟩
  ·have : i = es.length := by omega
   subst this
   rw [decide_eq_false hi, drop_end (by omega)]
   exact ⟨rfl, rfl⟩
theorem check_fileA (hN : maxLen < N) (hes : ∀ x ∈ es, EntD x) : G23x0 N es = some (fileE es) ∧ G27x0 N es = some (fileE es) := by
 unfold fileE
 by_cases hl : (es.length : Int) > 50000
 ·unfold G23x0 F23x0 G27x0 F27x0
  rw [decide_eq_true hl]; exact ⟨rfl, rfl⟩
 ·have hm : maxLen = 9223372036854775807 := rfl
  obtain ⟨q1, q2⟩ := check_loopA hN hes (by omega) N 0 (V36x0 N) zeroS Ab.start (by omega) (by omega) (by omega) start70
  have k1 : G23x0x15 N es es.length 0 (V36x0 N) = _ := q1
  have k2 : G27x0x15 N es es.length 0 zeroS = _ := q2
  have k3 : G23x0 N es = bnd (G23x0x15 N es es.length 0 (V36x0 N)) (fun y1 => bif inlB y1 then some (inlV y1) else bif (inrQ y1).isSome then some 0 else none) := by
   unfold G23x0 F23x0
   rw [decide_eq_false hl]; rfl
  have k4 : G27x0 N es = bnd (G27x0x15 N es es.length 0 zeroS) (fun y1 => bif inlB y1 then some (inlV y1) else bif (inrQ y1).isSome then some 0 else none) := by
   unfold G27x0 F27x0
   rw [decide_eq_false hl]; rfl
  rw [k3, k4, k1, k2, decide_eq_false hl]
  simp only [show (0 : Int).toNat = 0 from rfl, List.drop_zero, _root_.cond_false]
  cases h : errsA Ab.start es != 0 with
  | true => exact ⟨rfl, rfl⟩
  | false =>
   have : errsA Ab.start es = 0 := by simpa using h
   rw [this]; exact ⟨rfl, rfl⟩
theorem errs_cons {a : Ab} {x : D} {r : List D} (h : errsA a (x :: r) = 0) : errE a x = 0 ∧ errsA (stepA a x) r = 0 := by
 simp only [errsA] at h
 cases hz : (errE a x != 0) with
 | true =>
  rw [hz] at h
  simp only [_root_.cond_true] at h
  rw [h] at hz; simp at hz
 | false =>
  rw [hz] at h
  exact ⟨by simpa using hz, h⟩
theorem fileE_ok (h : fileE es = 0) : es.length ≤ 50000 ∧ errsA Ab.start es = 0 := by
 unfold fileE at h
 by_cases hl : (es.length : Int) > 50000
 ·rw [decide_eq_true hl] at h; exact absurd (show (3 : Int) = 0 from h) (by decide)
 ·rw [decide_eq_false hl] at h; exact ⟨by omega, h⟩
end
end Go.Proofs.Ytfogaejiehebeaa

namespace Go.Proofs.Ytfogaejiehebeaa
open Go Go.AM
set_option maxRecDepth 100000
set_option maxHeartbeats 4000000
set_option linter.unusedVariables false
variable {N : Nat}
def bt (n i : Int) : D := .i (IntKind.wrap .u8 (n.fdiv (2 ^ (min (IntKind.wrap .i64 (8 * i)).toNat 64))))
def nb1 (n : Int) : List D := [bt n 0]
def nb2 (n : Int) (big : Bool) : List D := bif big then [bt n 1, bt n 0] else [bt n 0, bt n 1]
def nb4 (n : Int) (big : Bool) : List D := bif big then [bt n 3, bt n 2, bt n 1, bt n 0] else [bt n 0, bt n 1, bt n 2, bt n 3]
theorem fuel (hN : maxLen < N) (j : Nat) (hj : j ≤ 1000) : ∃ k, N = k + j := by
 have hm : maxLen = 9223372036854775807 := rfl
 exact ⟨N - j, by omega⟩
theorem P67_1 (hN : maxLen < N) (n : Int) (big : Bool) : G42x0 N n 1 big = some (nb1 n) := by
 obtain ⟨k, rfl⟩ := fuel hN 8 (by omega)
 cases big <;> kernel_rfl
theorem P67_2 (hN : maxLen < N) (n : Int) (big : Bool) : G42x0 N n 2 big = some (nb2 n big) := by
 obtain ⟨k, rfl⟩ := fuel hN 8 (by omega)
 cases big <;> kernel_rfl
theorem P67_4 (hN : maxLen < N) (n : Int) (big : Bool) : G42x0 N n 4 big = some (nb4 n big) := by
 obtain ⟨k, rfl⟩ := fuel hN 8 (by omega)
 cases big <;> kernel_rfl
theorem P69_1 (hN : maxLen < N) (n : Int) (big : Bool) : G47x0 N n 1 big = some (nb1 n) := by
 obtain ⟨k, rfl⟩ := fuel hN 8 (by omega)
 cases big <;> kernel_rfl
theorem P69_2 (hN : maxLen < N) (n : Int) (big : Bool) : G47x0 N n 2 big = some (nb2 n big) := by
 obtain ⟨k, rfl⟩ := fuel hN 8 (by omega)
 cases big <;> kernel_rfl
theorem P69_4 (hN : maxLen < N) (n : Int) (big : Bool) : G47x0 N n 4 big = some (nb4 n big) := by
 obtain ⟨k, rfl⟩ := fuel hN 8 (by omega)
 cases big <;> kernel_rfl
def u8 (n : Int) : D := .i (IntKind.wrap .u8 n)
theorem ent_ok {a : Ab} {kind slot off : Int} {ds data : List D} (hf : a.kn slot.toNat = true → FldsOk (a.fs slot.toNat)) (h : errC a kind slot off ds data = 0) :
  (1 ≤ kind ∧ kind ≤ 3) ∧ (0 ≤ slot ∧ slot ≤ 15) ∧ (0 ≤ off ∧ off ≤ 31) ∧ (kind = 1 → ds.length = 1 ∧ ((ds.getD 0 (.i 0)).cell 2).items.length ≤ 255) ∧ data.length ≤ 65025 := by
 have hE := entE_ok h
 have hin : inI slot 0 (bif kind == 3 then 3 else 15) = true ∧ inI off 0 (bif kind == 3 then 31 else 0) = true ∧ (kind = 1 → data.length = 0) := by
  unfold errC entE at h
  cases h1 : inI kind 1 3 with
  | false => rw [h1] at h; exact absurd (show (7 : Int) = 0 from h) (by decide)
  | true =>
  cases h2 : inI slot 0 (bif kind == 3 then 3 else 15) with
  | false => rw [h1, h2] at h; exact absurd (show (9 : Int) = 0 from h) (by decide)
  | true =>
  cases h3 : inI off 0 (bif kind == 3 then 31 else 0) with
  | false => rw [h1, h2, h3] at h; exact absurd (show (9 : Int) = 0 from h) (by decide)
  | true =>
   refine ⟨rfl, rfl, fun hk => ?_⟩
   subst hk
   rw [h1, h2, h3] at h
   cases h4 : ((ds.length : Int) != 1) || decide ((data.length : Int) > 0) with
   | true => simp only [Bool.not_true, _root_.cond_false, Bool.or_self, beq_self_eq_true, _root_.cond_true, h4] at h; exact absurd h (by decide)
   | false => simp at h4; simp [h4.2]
 obtain ⟨n1, n2, n3⟩ := hin
 have m1 : 0 ≤ slot ∧ slot ≤ 15 := by cases hk : kind == 3 <;> rw [hk] at n1 <;> unfold inI at n1 <;> simp at n1 <;> omega
 have m2 : 0 ≤ off ∧ off ≤ 31 := by cases hk : kind == 3 <;> rw [hk] at n2 <;> unfold inI at n2 <;> simp at n2 <;> omega
 refine ⟨hE.k, m1, m2, fun hk => ⟨(hE.d hk).1, (defE_ok (hE.d hk).2).len⟩, ?_⟩
 by_cases hk : kind = 1
 ·rw [n3 hk]; omega
 ·have := hf (hE.n hk).1
  have sb := szL_bound this.size
  have := this.len
  by_cases hk3 : kind = 3
  ·have := (hE.h hk3).2.2.2.2; omega
  ·have := hE.t (by have := hE.k; omega); omega
def OkA (a : Ab) : Prop := ∀ j, a.kn j = true → FldsOk (a.fs j)
theorem OkA.step {a : Ab} (h : OkA a) {x : D} (hx : errE a x = 0) : OkA (stepA a x) := by
 unfold stepA stepD
 cases hk : kX x == 1 with
 | true =>
  have hE := entE_ok hx
  have hf := defE_ok (hE.d (by simpa using hk)).2
  intro j hj
  simp only [_root_.cond_true, upA] at hj ⊢
  by_cases e : j = (sX x).toNat
  ·simp only [if_pos e]; exact hf
  ·simp only [if_neg e] at hj ⊢; exact h j hj
 | false => exact h
theorem OkA.start : OkA Ab.start := fun j hj => by simp [Ab.start] at hj
section
variable {es : List D}
end
end Go.Proofs.Ytfogaejiehebeaa

namespace Go.Proofs.Ytfogaejiehebeaa
open Go Go.AM
set_option maxRecDepth 100000
set_option maxHeartbeats 4000000
set_option linter.unusedVariables false
variable {N : Nat}
section
variable {ps : List D}
end
theorem bt_ok (n i : Int) : 0 ≤ (bt n i).toI ∧ (bt n i).toI ≤ 255 := by
 unfold bt D.toI
 simp only [IntKind.wrap_u8]
 omega
theorem BytesOk.append {a b : List D} (h1 : BytesOk a) (h2 : BytesOk b) : BytesOk (a ++ b) := fun x hx => by
 rcases List.mem_append.1 hx with h | h
 ·exact h1 x h
 ·exact h2 x h
theorem BytesOk.cons {x : D} {b : List D} (h1 : 0 ≤ x.toI ∧ x.toI ≤ 255) (h2 : BytesOk b) : BytesOk (x :: b) := fun y hy => by
 rcases List.mem_cons.1 hy with rfl | h
 ·exact h1
 ·exact h2 y h
theorem BytesOk.nil : BytesOk [] := fun x hx => by simp at hx
theorem nb4_ok (n : Int) (big : Bool) : BytesOk (nb4 n big) := by
 cases big <;> exact .cons (bt_ok _ _) (.cons (bt_ok _ _) (.cons (bt_ok _ _) (.cons (bt_ok _ _) .nil)))
theorem nb2_ok (n : Int) (big : Bool) : BytesOk (nb2 n big) := by
 cases big <;> exact .cons (bt_ok _ _) (.cons (bt_ok _ _) .nil)
section
variable {es : List D}
end
end Go.Proofs.Ytfogaejiehebeaa

namespace Go.Proofs.Ytfogaejiehebeaa
open Go Go.AM
set_option maxRecDepth 100000
set_option maxHeartbeats 4000000
set_option linter.unusedVariables false
theorem kinds24 : kinds Try.prog 24 = [.sl 41] := by kernel_rfl
theorem kinds41 : kinds Try.prog 41 = [.int .i64, .int .i64, .int .i64, .sl 44, .sl 5] := by kernel_rfl
theorem kinds44 : kinds Try.prog 44 = [.bool, .int .i64, .sl 61] := by kernel_rfl
theorem kinds61 : kinds Try.prog 61 = [.int .i64, .int .i64, .int .i64] := by kernel_rfl
theorem kinds5' : kinds Try.prog 5 = [.int .u8] := by kernel_rfl
def In64 (i : Int) : Prop := -9223372036854775808 ≤ i ∧ i ≤ 9223372036854775807
def FldT (f : D) : Prop := ∃ a b c, f = .a [.i a, .i b, .i c] ∧ In64 a ∧ In64 b ∧ In64 c
def DefT (d : D) : Prop := ∃ big g nl fs, d = .a [.b big, .i g, .l nl fs] ∧ In64 g ∧ (nl = true → fs = []) ∧ fs.length ≤ maxLen ∧ ∀ f ∈ fs, FldT f
def ByteT (x : D) : Prop := ∃ n, x = .i n ∧ 0 ≤ n ∧ n ≤ 255
def EntT (x : D) : Prop := ∃ kind slot off dn ds bn data, x = .a [.i kind, .i slot, .i off, .l dn ds, .l bn data] ∧ In64 kind ∧ In64 slot ∧ In64 off ∧ (dn = true → ds = []) ∧ (bn = true → data = []) ∧ ds.length ≤ maxLen ∧ data.length ≤ maxLen ∧ (∀ d ∈ ds, DefT d) ∧ ∀ y ∈ data, ByteT y
theorem wf64 {i : Int} (h : (Lit.int .i64 i).wf = true) : In64 i := by
 simp only [Lit.wf, Bool.and_eq_true, decide_eq_true_eq] at h
 exact h
theorem byteT_ok {m : Nat} {x : D} (h : TyEl Try.prog (TyK Try.prog (m + 1)) 5 x) : ByteT x := by
 unfold TyEl at h
 have : isAggB Try.prog 5 = false := by kernel_rfl
 rw [if_neg (by rw [this]; simp), kinds5'] at h
 obtain ⟨k, hk, h⟩ := h
 simp only [List.cons.injEq, and_true] at hk
 subst hk
 obtain ⟨i, rfl, hl⟩ := h
 simp only [Lit.wf, Bool.and_eq_true, decide_eq_true_eq] at hl
 exact ⟨i, rfl, hl⟩
theorem fldT_ok {m : Nat} {x : D} (h : TyEl Try.prog (TyK Try.prog (m + 1)) 61 x) : FldT x := by
 unfold TyEl at h
 have : isAggB Try.prog 61 = true := by kernel_rfl
 rw [if_pos this, kinds61] at h
 obtain ⟨cs, rfl, hc⟩ := h
 obtain ⟨_, _, rfl, h0, hc⟩ := all2_cons hc
 obtain ⟨_, _, rfl, h1, hc⟩ := all2_cons hc
 obtain ⟨_, _, rfl, h2, hc⟩ := all2_cons hc
 obtain rfl := all2_nil hc
 obtain ⟨a, rfl, ha⟩ := ty_int h0
 obtain ⟨b, rfl, hb⟩ := ty_int h1
 obtain ⟨c, rfl, hc9⟩ := ty_int h2
 exact ⟨a, b, c, rfl, wf64 ha, wf64 hb, wf64 hc9⟩
theorem defT_ok {m : Nat} {x : D} (h : TyEl Try.prog (TyK Try.prog (m + 2)) 44 x) : DefT x := by
 unfold TyEl at h
 have : isAggB Try.prog 44 = true := by kernel_rfl
 rw [if_pos this, kinds44] at h
 obtain ⟨cs, rfl, hc⟩ := h
 obtain ⟨_, _, rfl, h0, hc⟩ := all2_cons hc
 obtain ⟨_, _, rfl, h1, hc⟩ := all2_cons hc
 obtain ⟨_, _, rfl, h2, hc⟩ := all2_cons hc
 obtain rfl := all2_nil hc
 obtain ⟨b, rfl⟩ := ty_bool h0
 obtain ⟨g, rfl, hg⟩ := ty_int h1
 obtain ⟨nl, fs, rfl, n1, n2, n3⟩ := ty_sl h2
 exact ⟨b, g, nl, fs, rfl, wf64 hg, n1, n2, fun f hf => fldT_ok (n3 f hf)⟩
theorem entT_ok {m : Nat} {x : D} (h : TyEl Try.prog (TyK Try.prog (m + 3)) 41 x) : EntT x := by
 unfold TyEl at h
 have : isAggB Try.prog 41 = true := by kernel_rfl
 rw [if_pos this, kinds41] at h
 obtain ⟨cs, rfl, hc⟩ := h
 obtain ⟨_, _, rfl, h0, hc⟩ := all2_cons hc
 obtain ⟨_, _, rfl, h1, hc⟩ := all2_cons hc
 obtain ⟨_, _, rfl, h2, hc⟩ := all2_cons hc
 obtain ⟨_, _, rfl, h3, hc⟩ := all2_cons hc
 obtain ⟨_, _, rfl, h4, hc⟩ := all2_cons hc
 obtain rfl := all2_nil hc
 obtain ⟨a, rfl, ha⟩ := ty_int h0
 obtain ⟨b, rfl, hb⟩ := ty_int h1
 obtain ⟨c, rfl, hc9⟩ := ty_int h2
 obtain ⟨dn, ds, rfl, n1, n2, n3⟩ := ty_sl h3
 obtain ⟨bn, data, rfl, m1, m2, m3⟩ := ty_sl h4
 exact ⟨a, b, c, dn, ds, bn, data, rfl, wf64 ha, wf64 hb, wf64 hc9, n1, m1, n2, m2, fun d hd => defT_ok (n3 d hd), fun y hy => byteT_ok (m3 y hy)⟩
theorem EntT.entD {x : D} (h : EntT x) : EntD x := by
 obtain ⟨a, b, c, dn, ds, bn, data, rfl, _, _, _, n1, m1, n2, m2, n3, m3⟩ := h
 refine ⟨n2, m2, fun d hd => ?_, fun y hy => ?_⟩
 ·obtain ⟨big, g, nl, fs, rfl, _, _, hl, _⟩ := n3 d hd
  exact hl
 ·obtain ⟨n, rfl, h0, h1⟩ := m3 y hy
  exact ⟨h0, h1⟩
theorem arg24 {ds : List D} (h : ArgOk Try.prog 6 24 ds) : ∃ nl es, ds = [.l nl es] ∧ (nl = true → es = []) ∧ es.length ≤ maxLen ∧ ∀ x ∈ es, EntT x := by
 unfold ArgOk at h
 rw [kinds24] at h
 obtain ⟨_, _, rfl, h0, h⟩ := all2_cons h
 obtain rfl := all2_nil h
 obtain ⟨nl, es, rfl, h1, h2, h3⟩ := ty_sl (m := 5) h0
 exact ⟨nl, es, rfl, h1, h2, fun x hx => entT_ok (h3 x hx)⟩
theorem kinds3' : kinds Try.prog 3 = [.int .i64] := by kernel_rfl
theorem arg3 {ds : List D} (h : ArgOk Try.prog 6 3 ds) : ∃ n, ds = [.i n] ∧ In64 n := by
 unfold ArgOk at h
 rw [kinds3'] at h
 obtain ⟨_, _, rfl, h0, h⟩ := all2_cons h
 obtain rfl := all2_nil h
 obtain ⟨n, rfl, hn⟩ := ty_int (m := 5) h0
 exact ⟨n, rfl, wf64 hn⟩
end Go.Proofs.Ytfogaejiehebeaa

namespace Go.Proofs.Ytfogaejiehebeaa
open Go Go.AM
set_option maxRecDepth 100000
set_option maxHeartbeats 4000000
set_option linter.unusedVariables false
variable {N : Nat}
def timesD (a : Ab) (es : List D) : List D := (timesA a es).map .i
theorem timesD_cons {a : Ab} {x : D} {r : List D} : timesD a (x :: r) = .i (timeE a x) :: timesD (stepA a x) r := rfl
def defOk (a : Ab) (x d : D) : Prop := (kX x = 1 → d.items = []) ∧ (kX x ≠ 1 → ∃ nl, d.items = [.a [.b (a.bg (sX x).toNat), .i (a.gl (sX x).toNat), .l nl (a.fs (sX x).toNat)]])
def PlL : Ab → List D → List D → Prop
 | _, [], [] => True
 | a, x :: r, d :: ds => defOk a x d ∧ PlL (stepA a x) r ds
 | _, _, _ => False
theorem PlL.len : ∀ {es ds : List D} {a : Ab}, PlL a es ds → ds.length = es.length
 | [], [], _, _ => rfl
 | x :: r, d :: ds, a, h => by simp [PlL.len h.2]
 | [], _ :: _, _, h => h.elim
 | _ :: _, [], _, h => h.elim
section
variable {es : List D}
theorem times_loopS (hN : maxLen < N) (hes : ∀ x ∈ es, EntD x) (hl : es.length ≤ 50000) : ∀ (m : Nat) (i : Int) (p s : D) (a : Ab) (b b1 : Bool) (acc acc1 : List D), 0 ≤ i → i ≤ es.length → (es.length - i).toNat < m → Wk p s a i → errsA a (es.drop i.toNat) = 0 → (acc.length : Int) = i → (acc1.length : Int) = i →
  ∃ b' b1' ds, L17x0x12 N es es.length m i s b1 acc1 b acc (fun p => some p) = some (b1', acc1 ++ ds, b', acc ++ timesD a (es.drop i.toNat)) ∧ PlL a (es.drop i.toNat) ds := by
 intro m
 induction m with
 | zero => intro i p s a b b1 acc acc1 _ _ h; omega
 | succ m ih =>
  intro i p s a b b1 acc acc1 h0 h1 hm hw he ha ha1
  unfold L17x0x12 S17x0x12
  by_cases hi : i < es.length
  ·have hx : EntD _ := hes _ (getD_mem (fs := es) h0 hi)
   rw [drop_at (.i 0) h0 hi] at he ⊢
   obtain ⟨e1, e2⟩ := errs_cons he
   obtain ⟨p', s', q1, q2, hw'⟩ := take_abs (N := N) hN hw hx h0 (by omega) e1
   have hE := entE_ok e1
   have r1 : decide ((acc.length + 1) * 8 ≤ room) = true := decide_eq_true (by unfold room; omega)
   have r2 : decide (acc.length + 1 ≤ strMax) = true := decide_eq_true (by unfold strMax; omega)
   have r3 : decide ((acc1.length + 1) * 24 ≤ room) = true := decide_eq_true (by unfold room; omega)
   have r4 : decide (acc1.length + 1 ≤ strMax) = true := decide_eq_true (by unfold strMax; omega)
   have h29 : ∃ y, G17x0x29 N (kX (es.getD i.toNat (.i 0)) != 1) (sX (es.getD i.toNat (.i 0))) s' = some y ∧ ∃ d, (y = .inr () ∧ d = .l true [] ∨ ∃ l, y = .inl l ∧ d = .l false l) ∧ defOk a (es.getD i.toNat (.i 0)) d := by
    unfold G17x0x29 F17x0x29
    by_cases hk : kX (es.getD i.toNat (.i 0)) = 1
    ·rw [hk]
     exact ⟨.inr (), rfl, .l true [], .inl ⟨rfl, rfl⟩, fun _ => rfl, fun h => absurd hk h⟩
    ·have hk' : (kX (es.getD i.toNat (.i 0)) != 1) = true := by simpa using hk
     rw [hk', hE.s.1]
     have hkn : (stepA a (es.getD i.toNat (.i 0))).kn (sX (es.getD i.toNat (.i 0))).toNat = true := by
      unfold stepA stepD
      have : (kX (es.getD i.toNat (.i 0)) == 1) = false := by simpa using hk
      rw [this]; exact (hE.n hk).1
     obtain ⟨d1, d2, d3⟩ := hw'.ss.df _ hE.s.2 hkn
     have hb : (stepA a (es.getD i.toNat (.i 0))).bg = a.bg ∧ (stepA a (es.getD i.toNat (.i 0))).gl = a.gl ∧ (stepA a (es.getD i.toNat (.i 0))).fs = a.fs := by
      unfold stepA stepD
      have : (kX (es.getD i.toNat (.i 0)) == 1) = false := by simpa using hk
      rw [this]; exact ⟨rfl, rfl, rfl⟩
     rw [hb.1] at d1
     rw [hb.2.1] at d2
     rw [hb.2.2] at d3
     refine ⟨.inl [.a [.b (s'.cell (16 + ((sX (es.getD i.toNat (.i 0))).toNat * 3))).toB, .i (s'.cell (17 + ((sX (es.getD i.toNat (.i 0))).toNat * 3))).toI, .l (s'.cell (18 + ((sX (es.getD i.toNat (.i 0))).toNat * 3))).isNil (s'.cell (18 + ((sX (es.getD i.toNat (.i 0))).toNat * 3))).items]], rfl, _, .inr ⟨_, rfl, rfl⟩, fun h => absurd h hk, fun _ => ⟨(s'.cell (18 + ((sX (es.getD i.toNat (.i 0))).toNat * 3))).isNil, ?_⟩⟩
     rw [d1, d2, d3]; rfl
   obtain ⟨y, y29, d, hd, hdok⟩ := h29
   rw [decide_eq_true hi, inB_of h0 hi, q2]
   simp only [_root_.cond_true, bnd_eq, Option.isSome_some, getD_some, r1, r2, r3, r4, Bool.and_self, y29, wrapI (x := i + 1) (by omega) (by omega)]
   obtain ⟨b', b1', ds, z, zp⟩ := ih (i + 1) p' s' _ false false (acc ++ [.i (timeE a (es.getD i.toNat (.i 0)))]) (acc1 ++ [d]) (by omega) (by omega) (by omega) hw' e2 (by simp; omega) (by simp; omega)
   refine ⟨b', b1', d :: ds, ?_, hdok, zp⟩
   rw [List.append_assoc, List.append_assoc] at z
   rw [timesD_cons]
   rcases hd with ⟨rfl, rfl⟩ | ⟨l, rfl, rfl⟩
   ·exact z
   ·exact z
  ·have : i = es.length := by omega
   subst this
   rw [decide_eq_false hi, drop_end (by omega)]
   exact ⟨b, b1, [], by simp [timesD, timesA], trivial⟩
theorem places_ref (hN : maxLen < N) (hes : ∀ x ∈ es, EntD x) (h : fileE es = 0) : ∃ b b1 ds, G17x0 N es = some (b1, ds, b, timesD Ab.start es) ∧ PlL Ab.start es ds := by
 have hm : maxLen = 9223372036854775807 := rfl
 obtain ⟨hl, he⟩ := fileE_ok h
 obtain ⟨b, b1, ds, z, zp⟩ := times_loopS hN hes hl N 0 (V36x0 N) zeroS Ab.start true true [] [] (by omega) (by omega) (by omega) start70 (by simpa using he) (by simp) (by simp)
 have y1 : G17x0x12 N es es.length 0 zeroS true [] true [] = some (b1, ds, b, timesD Ab.start es) := by unfold G17x0x12; simpa using z
 refine ⟨b, b1, ds, ?_, by simpa using zp⟩
 have k2 : G17x0 N es = bnd (G17x0x12 N es es.length 0 zeroS true [] true []) fun y1 => bif y1.isSome then some (y1.getD default) else none := by unfold G17x0 F17x0; rfl
 rw [k2, y1]; rfl
end
end Go.Proofs.Ytfogaejiehebeaa

namespace Go.Proofs.Ytfogaejiehebeaa
open Go Go.AM
set_option maxRecDepth 100000
set_option maxHeartbeats 4000000
set_option linter.unusedVariables false
variable {N : Nat}
def nDef (d : D) : D := .a [.b (d.cell 0).toB, .i (d.cell 1).toI, .l false (d.cell 2).items]
structure EqE (x y : D) : Prop where
 k : kX x = kX y
 s : sX x = sX y
 o : oX x = oX y
 d : (dX x).map nDef = (dX y).map nDef
 b : bX x = bX y
theorem EqE.symm {x y : D} (h : EqE x y) : EqE y x := ⟨h.k.symm, h.s.symm, h.o.symm, h.d.symm, h.b.symm⟩
theorem nDef_inj {d d' : D} (h : nDef d = nDef d') : (d.cell 0).toB = (d'.cell 0).toB ∧ (d.cell 1).toI = (d'.cell 1).toI ∧ (d.cell 2).items = (d'.cell 2).items := by
 unfold nDef at h
 simp only [D.a.injEq, List.cons.injEq, D.b.injEq, D.i.injEq, D.l.injEq, and_true, true_and] at h
 exact h
theorem defs_eq {ds ds' : List D} (h : ds.map nDef = ds'.map nDef) : ds.length = ds'.length ∧ ((ds.getD 0 (.i 0)).cell 0).toB = ((ds'.getD 0 (.i 0)).cell 0).toB ∧ ((ds.getD 0 (.i 0)).cell 1).toI = ((ds'.getD 0 (.i 0)).cell 1).toI ∧ ((ds.getD 0 (.i 0)).cell 2).items = ((ds'.getD 0 (.i 0)).cell 2).items := by
 have hl : ds.length = ds'.length := by have := congrArg List.length h; simpa using this
 refine ⟨hl, ?_⟩
 match ds, ds', h, hl with
 | [], [], _, _ => exact ⟨rfl, rfl, rfl⟩
 | d :: _, d' :: _, h, _ =>
  simp only [List.map_cons, List.cons.injEq] at h
  exact nDef_inj h.1
 | [], _ :: _, _, hl => simp at hl
 | _ :: _, [], _, hl => simp at hl
theorem EqE.err {x y : D} (h : EqE x y) (a : Ab) : errE a x = errE a y := by
 obtain ⟨l, d0, d1, d2⟩ := defs_eq h.d
 unfold errE errC entE
 rw [h.k, h.s, h.o, h.b, l, d1, d2]
theorem EqE.time {x y : D} (h : EqE x y) (a : Ab) : timeE a x = timeE a y := by
 unfold timeE
 rw [h.k, h.s, h.o, h.b]
theorem EqE.step {x y : D} (h : EqE x y) (a : Ab) : stepA a x = stepA a y := by
 obtain ⟨l, d0, d1, d2⟩ := defs_eq h.d
 unfold stepA stepD
 rw [h.k, h.s, h.o, h.b, d0, d1, d2]
theorem All2.errs {xs ys : List D} (h : All2 EqE xs ys) (a : Ab) : errsA a xs = errsA a ys := by
 induction xs generalizing ys a with
 | nil => cases ys with
  | nil => rfl
  | cons => exact h.elim
 | cons x xs ih => cases ys with
  | nil => exact h.elim
  | cons y ys => simp only [errsA]; rw [h.1.err, h.1.step, ih h.2]
theorem All2.timesD {xs ys : List D} (h : All2 EqE xs ys) (a : Ab) : Proofs.Ytfogaejiehebeaa.timesD a xs = Proofs.Ytfogaejiehebeaa.timesD a ys := by
 induction xs generalizing ys a with
 | nil => cases ys with
  | nil => rfl
  | cons => exact h.elim
 | cons x xs ih => cases ys with
  | nil => exact h.elim
  | cons y ys => rw [timesD_cons, timesD_cons, h.1.time, h.1.step, ih h.2]
theorem All2.fileE {xs ys : List D} (h : All2 EqE xs ys) : Proofs.Ytfogaejiehebeaa.fileE xs = Proofs.Ytfogaejiehebeaa.fileE ys := by
 unfold Proofs.Ytfogaejiehebeaa.fileE
 rw [AM.All2.length h, All2.errs h]
theorem zipAll_true2 : ∀ {xs ys : List D}, xs.length = ys.length → zipAll (fun _ _ => true) xs ys = true
 | [], [], _ => rfl
 | x :: r, y :: s, h => by simp only [zipAll, Bool.true_and]; exact zipAll_true2 (by simpa using h)
 | [], _ :: _, h => by simp at h
 | _ :: _, [], h => by simp at h
theorem getD_all2 {R : D → D → Prop} {xs ys : List D} (h : All2 R xs ys) {w : Int} (hw : inB w xs.length = true) : R (xs.getD w.toNat (.i 0)) (ys.getD w.toNat (.i 0)) := by
 unfold inB at hw
 simp at hw
 have hl := AM.All2.length h
 have h1 : w.toNat < xs.length := by omega
 rw [List.getD_eq_getElem?_getD, List.getD_eq_getElem?_getD, List.getElem?_eq_getElem h1, List.getElem?_eq_getElem (by omega : w.toNat < ys.length)]
 exact h.get2 (List.getElem?_eq_getElem h1) (List.getElem?_eq_getElem _)
theorem same_ind {R : D → D → Prop} {xs ys : List D} (hr : All2 R xs ys) {S : Int → (Int → Option (Sum Unit Unit)) → Option (Sum Unit Unit)} {L : Nat → Int → Option (Sum Unit Unit)} (hL : ∀ m a, L (m + 1) a = S a (L m)) (hlen : xs.length ≤ maxLen)
  (hend : ∀ kr, S xs.length kr = some (.inr ()))
  (hstep : ∀ (w : Int) (kr : Int → Option (Sum Unit Unit)), decide (w < xs.length) = true → inB w xs.length = true → inB w ys.length = true → xs.getD w.toNat (.i 0) ∈ xs → R (xs.getD w.toNat (.i 0)) (ys.getD w.toNat (.i 0)) → S w kr = kr (IntKind.wrap .i64 (w + 1)))
  (hN : maxLen < N) : L N 0 = some (.inr ()) := by
 have := zip_ind (xs := xs) (ys := ys) (fun _ _ => true) hL hlen (AM.All2.length hr) hend (fun w kr h1 h2 h3 => by rw [hstep w kr h1 h2 h3 (inB_mem h2) (getD_all2 hr h2)]; rfl) hN
 rw [this, zipAll_true2 (AM.All2.length hr)]
 rfl
theorem map_all2 {xs ys : List D} (h : xs.map nDef = ys.map nDef) : All2 (fun d d' => nDef d = nDef d') xs ys := by
 have hl : xs.length = ys.length := by have := congrArg List.length h; simpa using this
 refine .of_get hl fun j x y hx hy => ?_
 have := congrArg (fun l => l[j]?) h
 simp only [List.getElem?_map, hx, hy, Option.map_some, Option.some.injEq] at this
 exact this
section
variable {xs ys : List D}
theorem G103_same (hN : maxLen < N) (h : xs.map nDef = ys.map nDef) (hl : xs.length ≤ maxLen) (hf : ∀ x ∈ xs, (x.cell 2).items.length ≤ maxLen) : G32x0 N xs ys = some true := by
 have hle : xs.length = ys.length := by have := congrArg List.length h; simpa using this
 have k : G32x0x12 N ys xs xs.length 0 = some (.inr ()) := by
  refine same_ind (map_all2 h) (S := fun w kr => S32x0x12 N ys xs xs.length w kr _ _) (L := fun m w => L32x0x12 N ys xs xs.length m w _ _) (fun m w => rfl) hl (fun kr => by simp [S32x0x12]) (fun w kr h1 h2 h3 h4 h5 => ?_) hN
  obtain ⟨e0, e1, e2⟩ := nDef_inj h5
  unfold S32x0x12
  rw [h1, h2, h3, ← e0, ← e1, ← e2, G104_refl hN (hf _ h4)]
  simp [bnd_eq]
 unfold G32x0 F32x0
 rw [← hle, len_self, k]; rfl
theorem G48_same (hN : maxLen < N) {x y : D} (h : EqE x y) (he : EntD x) : G12x0 N (kX x) (sX x) (oX x) (dX x) (bX x) (kX y) (sX y) (oX y) (dX y) (bX y) = some true := by
 unfold G12x0 F12x0 G12x0x4 F12x0x4
 rw [← h.k, ← h.s, ← h.o, ← h.b, G103_same hN h.d he.d he.f, G25_refl hN he.b]
 simp [bnd_eq]
theorem G28_same (hN : maxLen < N) (h : All2 EqE xs ys) (he : ∀ x ∈ xs, EntD x) (hl : xs.length ≤ maxLen) : G10x0 N xs ys = some true := by
 have hle := AM.All2.length h
 have k : G28x0x12 N ys xs xs.length 0 = some (.inr ()) := by
  refine same_ind h (S := fun w kr => S28x0x12 N ys xs xs.length w kr _ _) (L := fun m w => L28x0x12 N ys xs xs.length m w _ _) (fun m w => rfl) hl (fun kr => by simp [S28x0x12]) (fun w kr h1 h2 h3 h4 h5 => ?_) hN
  unfold S28x0x12
  rw [h1, h2, h3, G48_same hN h5 (he _ h4)]
  simp [bnd_eq]
 unfold G10x0 F10x0 G28x0 F28x0
 rw [← hle, len_self, k]; rfl
end
end Go.Proofs.Ytfogaejiehebeaa

namespace Go.Proofs.Ytfogaejiehebeaa
open Go Go.AM
set_option maxRecDepth 100000
set_option maxHeartbeats 4000000
set_option linter.unusedVariables false
variable {N : Nat}
section
variable {l es : List D}
end
end Go.Proofs.Ytfogaejiehebeaa

namespace Go.Proofs.Ytfogaejiehebeaa
open Go Go.AM
set_option maxRecDepth 100000
set_option maxHeartbeats 4000000
set_option linter.unusedVariables false
variable {N : Nat}
theorem PlL.at_ {a : Ab} {es ds : List D} {x : D} (h : PlL a (x :: es) ds) : ∃ d r, ds = d :: r ∧ defOk a x d ∧ PlL (stepA a x) es r := by
 cases ds with
 | nil => exact h.elim
 | cons d r => exact ⟨d, r, rfl, h.1, h.2⟩
section
variable {es : List D}
end
end Go.Proofs.Ytfogaejiehebeaa

namespace Go.Proofs.Ytfogaejiehebeaa
open Go Go.AM
set_option maxRecDepth 100000
set_option maxHeartbeats 4000000
set_option linter.unusedVariables false
variable {N : Nat}
def TypOk (fs : List D) : Prop := ∀ f ∈ fs, 0 ≤ fT f ∧ fT f ≤ 3 ∧ 1 ≤ fS f ∧ fS f ≤ 255 ∧ (fT f ≤ 1 → fS f = 1 ∨ fS f = 2 ∨ fS f = 4)
theorem defE_typ {g : Int} {fs : List D} (h : defE g fs = 0) : TypOk fs := by
 unfold defE at h
 cases h1 : inI g 0 65535 with
 | false => rw [h1] at h; exact absurd (show (9 : Int) = 0 from h) (by decide)
 | true =>
  rw [h1] at h
  cases h2 : decide ((fs.length : Int) > 30) with
  | true => rw [h2] at h; exact absurd (show (3 : Int) = 0 from h) (by decide)
  | false =>
   rw [h2] at h
   simp only [Bool.not_true, _root_.cond_false] at h
   intro f hf
   obtain ⟨i, hi, rfl⟩ := List.getElem_of_mem hf
   have := firstE_zero h i hi
   rw [Int.zero_add] at this
   unfold fldE at this
   have hg : fs.getD ((i : Int)).toNat (.i 0) = fs[i] := by
    rw [List.getD_eq_getElem?_getD, Int.toNat_natCast, List.getElem?_eq_getElem hi]; rfl
   rw [hg] at this
   cases h0 : inI (fN fs[i]) 0 255 with
   | false => rw [h0] at this; exact absurd (show (9 : Int) = 0 from by simpa using this) (by decide)
   | true =>
   cases h3 : inI (fS fs[i]) 1 255 with
   | false => rw [h0, h3] at this; exact absurd (show (9 : Int) = 0 from by simpa using this) (by decide)
   | true =>
   cases h4 : inI (fT fs[i]) 0 3 with
   | false => rw [h0, h3, h4] at this; exact absurd (show (7 : Int) = 0 from by simpa using this) (by decide)
   | true =>
   rw [h0, h3, h4] at this
   simp only [Bool.not_true, _root_.cond_false, Bool.or_self] at this
   cases h5 : (decide (fT fs[i] ≤ 1) && (fS fs[i] != 1) && (fS fs[i] != 2) && (fS fs[i] != 4)) with
   | true => rw [h5] at this; exact absurd (show (2 : Int) = 0 from by simpa using this) (by decide)
   | false =>
   unfold inI at h3 h4
   simp only [Bool.and_eq_true, decide_eq_true_eq] at h3 h4
   refine ⟨h4.1, h4.2, h3.1, h3.2, fun ht => ?_⟩
   rw [decide_eq_true ht] at h5
   simp only [Bool.true_and] at h5
   by_cases a1 : fS fs[i] = 1
   ·exact .inl a1
   by_cases a2 : fS fs[i] = 2
   ·exact .inr (.inl a2)
   by_cases a3 : fS fs[i] = 4
   ·exact .inr (.inr a3)
   have : ∀ k : Int, fS fs[i] ≠ k → (fS fs[i] != k) = true := fun k hk => by simpa using hk
   rw [this 1 a1, this 2 a2, this 4 a3] at h5
   cases h5
def missV (s : Int) (sg : Bool) : Int := bif sg then (bif s == 1 then 127 else bif s == 2 then 32767 else 2147483647) else (bif s == 1 then 255 else bif s == 2 then 65535 else 4294967295)
def pwV (s : Int) : Int := bif s == 1 then 256 else bif s == 2 then 65536 else 4294967296
abbrev Sz (s : Int) : Prop := s = 1 ∨ s = 2 ∨ s = 4
theorem G41x0_eq {s : Int} (h : Sz s) (sg : Bool) : G41x0 N s sg = some (missV s sg) := by
 rcases h with rfl | rfl | rfl <;> cases sg <;> kernel_rfl
theorem G48x0_eq {s : Int} (h : Sz s) (t : Int) : G48x0 N s t = some (missV s (t == 1)) := by
 unfold G48x0 F48x0
 cases t == 1 <;> rcases h with rfl | rfl | rfl <;> kernel_rfl
def cutS (l : List UInt8) : List UInt8 := bif decide (Lib.indexByte l 0 ≥ 0) then l.take (Lib.indexByte l 0).toNat else l
theorem idx_lt (l : List UInt8) (c : UInt8) : Lib.indexByte l c < (l.length : Int) ∨ l = [] := by
 induction l with
 | nil => exact .inr rfl
 | cons b l ih =>
  left
  have hg := Lib.indexByte_ge l c
  simp only [Lib.indexByte, List.length_cons]
  by_cases h1 : (b == c) = true
  ·rw [if_pos h1]; omega
  ·rw [if_neg h1]
   by_cases h2 : (Lib.indexByte l c == -1) = true
   ·rw [if_pos h2]; omega
   ·rw [if_neg h2]
    rcases ih with ih | rfl
    ·omega
    ·exact absurd (show (Lib.indexByte [] c == -1) = true from rfl) h2
theorem G63x0_eq {l : List UInt8} (hl : l.length ≤ maxLen) : ∃ r c, G63x0 N l = some (cutS l, r, c) := by
 have hm : maxLen = 9223372036854775807 := rfl
 have hv : V78x0 N l = Lib.indexByte l 0 := by
  unfold V78x0 F78x0 V82x0 F82x0
  cases h : (([0] : List UInt8) == l) with
  | true => rw [← eq_of_beq h]; rfl
  | false => rfl
 have hg := Lib.indexByte_ge l 0
 unfold G63x0 F63x0 G77x0 F77x0 cutS
 simp only [bnd_eq, hv]
 rcases idx_lt l 0 with hlt | rfl
 ·generalize Lib.indexByte l 0 = j at hg hlt ⊢
  by_cases hj : j ≥ 0
  ·rw [decide_eq_true hj, decide_eq_true (show j ≤ (l.length : Int) by omega), wrapI (x := j + 1) (by omega) (by omega), decide_eq_true (show 0 ≤ j + 1 by omega), decide_eq_true (show j + 1 ≤ (l.length : Int) by omega), decide_eq_true (Int.le_refl (l.length : Int))]
   exact ⟨_, _, rfl⟩
  ·rw [decide_eq_false hj]
   exact ⟨_, _, rfl⟩
 ·exact ⟨_, _, rfl⟩
def valC (s t : Int) (b : List D) (big : Bool) : Int × List UInt8 × Bool :=
 bif t == 3 then (0, strD b, false) else bif t == 2 then (0, cutS (strD b), cutS (strD b) == []) else
 bif numB b big == missV s (t == 1) then (0, [], true) else (bif (t == 1) && decide (numB b big > missV s true) then numB b big - pwV s else numB b big, [], false)
structure ValOk (s t : Int) (b : List D) : Prop where
 t0 : 0 ≤ t
 t3 : t ≤ 3
 sz : t ≤ 1 → Sz s
 len : (b.length : Int) = s
 by_ : BytesOk b
 hl : b.length ≤ 255
theorem sub_pw {s n : Int} (h : Sz s) (h0 : 0 ≤ n) (h1 : n < 4294967296) (c : Bool) :
  (bif c then (bif decide (0 ≤ IntKind.wrap .i64 (8 * s)) then bnd (IntKind.wrap .i64 (1 * 2 ^ (min (IntKind.wrap .i64 (8 * s)).toNat 64))) fun y0 => some (IntKind.wrap .i64 (n - y0)) else none) else some n) = some (bif c then n - pwV s else n) := by
 have e : ∀ k, some (IntKind.wrap .i64 (n - k)) = some (n - k) ∨ ¬ (0 ≤ k ∧ k ≤ 4294967296) := fun k => by
  by_cases hk : 0 ≤ k ∧ k ≤ 4294967296
  ·left; rw [wrapI (by omega) (by omega)]
  ·exact .inr hk
 cases c with
 | false => rfl
 | true =>
  simp only [_root_.cond_true, bnd_eq]
  rcases h with rfl | rfl | rfl
  ·have e1 : IntKind.wrap .i64 (8 * 1) = 8 := by decide
   have e2 : IntKind.wrap .i64 (1 * 2 ^ (min (8 : Int).toNat 64)) = 256 := by decide
   rw [e1, e2, wrapI (x := n - 256) (by omega) (by omega)]; rfl
  ·have e1 : IntKind.wrap .i64 (8 * 2) = 16 := by decide
   have e2 : IntKind.wrap .i64 (1 * 2 ^ (min (16 : Int).toNat 64)) = 65536 := by decide
   rw [e1, e2, wrapI (x := n - 65536) (by omega) (by omega)]; rfl
  ·have e1 : IntKind.wrap .i64 (8 * 4) = 32 := by decide
   have e2 : IntKind.wrap .i64 (1 * 2 ^ (min (32 : Int).toNat 64)) = 4294967296 := by decide
   rw [e1, e2, wrapI (x := n - 4294967296) (by omega) (by omega)]; rfl
theorem strD_len (b : List D) : (strD b).length = b.length := by unfold strD; simp
theorem sz_len {s : Int} {b : List D} (h : Sz s) (hl : (b.length : Int) = s) : b.length ≤ 4 := by rcases h with rfl | rfl | rfl <;> omega
theorem G39x0_eq (hN : maxLen < N) {s t : Int} {b : List D} (h : ValOk s t b) (big : Bool) : G39x0 N s t b big = some (valC s t b big) := by
 have hm : maxLen = 9223372036854775807 := rfl
 have hb := h.hl
 have ht0 := h.t0
 have ht3 := h.t3
 unfold G39x0 F39x0 G39x0x39035 F39x0x39035 G39x0x9044 F39x0x9044 valC
 by_cases h2 : t = 2
 ·subst h2
  obtain ⟨r, c, q⟩ := G63x0_eq (N := N) (l := strD b) (by rw [strD_len]; omega)
  rw [q]; rfl
 ·have e2 : (t == 2) = false := by simpa using h2
  rw [e2]
  by_cases h3 : t = 3
  ·subst h3; rfl
  ·have e3 : (t == 3) = false := by simpa using h3
   have hsz := h.sz (by omega)
   have hn := numB_bound h.by_ big (sz_len hsz h.len)
   rw [e3, G64x0_eq hN h.by_ big (sz_len hsz h.len), G48x0_eq hsz]
   simp only [_root_.cond_false, bnd_eq, Option.isSome_some, getD_some, _root_.cond_true]
   generalize numB b big = n at hn ⊢
   cases hmi : (n == missV s (t == 1)) with
   | true => rfl
   | false =>
    have k := sub_pw hsz hn.1 hn.2 ((t == 1) && decide (n > missV s true))
    have hc : (bif t == 1 then decide (n ≥ IntKind.wrap .i64 (1 * 2 ^ (min (IntKind.wrap .i64 ((IntKind.wrap .i64 (8 * s)) - 1)).toNat 64))) else false) = ((t == 1) && decide (n > missV s true)) := by
     cases t == 1 with
     | false => rfl
     | true =>
      simp only [_root_.cond_true, Bool.true_and]
      have e : IntKind.wrap .i64 (1 * 2 ^ (min (IntKind.wrap .i64 ((IntKind.wrap .i64 (8 * s)) - 1)).toNat 64)) = missV s true + 1 := by rcases hsz with rfl | rfl | rfl <;> decide
      rw [e]
      by_cases hh : n > missV s true
      ·rw [decide_eq_true hh, decide_eq_true (by omega)]
      ·rw [decide_eq_false hh, decide_eq_false (by omega)]
    have hg : (bif decide (0 ≤ IntKind.wrap .i64 ((IntKind.wrap .i64 (8 * s)) - 1)) then true else !((t == 1) == true)) = true := by
     have e : decide (0 ≤ IntKind.wrap .i64 ((IntKind.wrap .i64 (8 * s)) - 1)) = true := by rcases hsz with rfl | rfl | rfl <;> decide
     rw [e]; rfl
    have k2 : G39x0x26 N n ((t == 1) && decide (n > missV s true)) s = some (bif (t == 1) && decide (n > missV s true) then n - pwV s else n) := by
     unfold G39x0x26 F39x0x26; exact k
    rw [hg, hc, k2]
    rfl
theorem G38x0_eq (hN : maxLen < N) {s t at_ : Int} {data : List D} (big : Bool) (h0 : 0 ≤ at_) (h1 : at_ + s ≤ data.length) (hs0 : 0 ≤ s) (hd : data.length ≤ maxLen) (h : ValOk s t ((data.take (at_ + s).toNat).drop at_.toNat)) :
  G38x0 N s t at_ data big = some (valC s t ((data.take (at_ + s).toNat).drop at_.toNat) big) := by
 have hm : maxLen = 9223372036854775807 := rfl
 unfold G38x0 F38x0
 rw [wrapI (x := at_ + s) (by omega) (by omega), decide_eq_true h0, decide_eq_true (show at_ ≤ at_ + s by omega), decide_eq_true h1]
 simp only [Bool.and_self, _root_.cond_true, bnd_eq]
 generalize (data.take (at_ + s).toNat).drop at_.toNat = b at h ⊢
 have hb := h.hl
 have ht0 := h.t0
 have ht3 := h.t3
 unfold G38x0x36035 F38x0x36035 G38x0x12041 F38x0x12041 valC
 by_cases h3 : t = 3
 ·subst h3; rfl
 ·have e3 : (t == 3) = false := by simpa using h3
  rw [e3]
  by_cases h2 : t = 2
  ·subst h2
   obtain ⟨r, c, q⟩ := G63x0_eq (N := N) (l := strD b) (by rw [strD_len]; omega)
   rw [q]; rfl
  ·have e2 : (t == 2) = false := by simpa using h2
   have hsz := h.sz (by omega)
   have hn := numB_bound h.by_ big (sz_len hsz h.len)
   rw [e2, G62x0_eq hN h.by_ big (sz_len hsz h.len), G41x0_eq hsz]
   simp only [_root_.cond_false, bnd_eq, Option.isSome_some, getD_some, _root_.cond_true]
   generalize numB b big = n at hn ⊢
   unfold G38x0x24023 F38x0x24023 G38x0x25 F38x0x25 G38x0x29 F38x0x29
   cases hmi : (n == missV s (t == 1)) with
   | true => rfl
   | false =>
    have k := sub_pw hsz hn.1 hn.2 ((t == 1) && decide (n > missV s true))
    simp only [_root_.cond_false, bnd_eq]
    have hc : (bif t == 1 then (bif (G41x0 N s true).isSome then some (decide (n > (G41x0 N s true).getD default)) else none) else some false) = some ((t == 1) && decide (n > missV s true)) := by
     rw [G41x0_eq hsz]
     cases t == 1 <;> rfl
    rw [hc]
    simp only [Option.isSome_some, getD_some, _root_.cond_true]
    simp only [bnd_eq] at k
    rw [k]
    rfl
def valD (f : D) (a : Int) (data : List D) (big : Bool) : D :=
 .a [.i (fN f), .i (fT f), .i (valC (fS f) (fT f) ((data.take (a + fS f).toNat).drop a.toNat) big).1, .s (valC (fS f) (fT f) ((data.take (a + fS f).toNat).drop a.toNat) big).2.1, .b (valC (fS f) (fT f) ((data.take (a + fS f).toNat).drop a.toNat) big).2.2]
def valsL (data : List D) (big : Bool) : Bool → Int → List D → List D
 | _, _, [] => []
 | t, a, f :: r => bif t && isT f then valsL data big false a r else valD f a data big :: valsL data big t (a + fS f) r
def fldsAt : Bool → Int → List D → List D
 | _, _, [] => []
 | t, a, f :: r => bif t && isT f then fldsAt false a r else .a [.i (fN f), .i (fS f), .i (fT f), .i a] :: fldsAt t (a + fS f) r
theorem fldsAt_len : ∀ {fs : List D} {t : Bool} {a : Int}, (fldsAt t a fs).length ≤ fs.length
 | [], _, _ => Nat.le_refl _
 | f :: r, t, a => by
  simp only [fldsAt]
  cases t && isT f with
  | true => have := fldsAt_len (fs := r) (t := false) (a := a); simp only [_root_.cond_true, List.length_cons]; omega
  | false => have := fldsAt_len (fs := r) (t := t) (a := a + fS f); simp only [_root_.cond_false, List.length_cons]; omega
section
variable {fs : List D}
def TInv (short t : Bool) (T all : Int) (r : List D) : Prop := bif short then (bif t then T = tmL all r else T < all) else t = false
theorem G18x0_eq (hN : maxLen < N) (h : FldsOk fs) (ht : TypOk fs) (short : Bool) : ∃ nl, G18x0 N fs (tmL 0 fs) short = some (nl, fldsAt short 0 fs) := by
 have hm : maxLen = 9223372036854775807 := rfl
 have hl := h.len
 have key := loop_indE (A := Int × Int × Int × Bool × LD) (X := Option (Bool × LD)) (S := fun x kr => S18x0x12 N short fs fs.length (tmL 0 fs) x.1 x.2.1 x.2.2.1 x.2.2.2.1 x.2.2.2.2 (fun a b c d e => kr (a, b, c, d, e)) (fun p => some p)) (L := fun m x => L18x0x12 N short fs fs.length (tmL 0 fs) m x.1 x.2.1 x.2.2.1 x.2.2.2.1 x.2.2.2.2 (fun p => some p)) (fun m x => rfl)
  (fun x r => ∀ t, TInv short t (tmL 0 fs) x.2.1 (fs.drop x.2.2.1.toNat) → ∃ nl, r = some (nl, x.2.2.2.2 ++ fldsAt t x.1 (fs.drop x.2.2.1.toNat)))
  (fun x => 0 ≤ x.2.2.1 ∧ x.2.2.1 ≤ fs.length ∧ 0 ≤ x.1 ∧ x.1 ≤ 255 * x.2.2.1 ∧ 0 ≤ x.2.1 ∧ x.2.1 ≤ 255 * x.2.2.1 ∧ (x.2.2.2.2.length : Int) ≤ x.2.2.1) (fun x => (fs.length - x.2.2.1).toNat) ?_ N (0, 0, 0, true, []) ⟨by decide, by show (0 : Int) ≤ _; omega, by decide, by decide, by decide, by decide, by decide⟩ (by simp; omega)
 ·obtain ⟨nl, k2⟩ := key short (by cases short <;> rfl)
  have k3 : G18x0x12 N short fs fs.length (tmL 0 fs) 0 0 0 true [] = some (nl, fldsAt short 0 fs) := by
   refine Eq.trans k2 ?_
   simp
  refine ⟨nl, ?_⟩
  unfold G18x0 F18x0
  rw [k3]; rfl
 ·rintro ⟨w1, all, w, b, l⟩ kr ⟨h0, h1, h2, h3, h4, h5, h6⟩ ih t hT
  simp only at h0 h1 h2 h3 h4 h5 h6 ih hT ⊢
  unfold S18x0x12
  by_cases hw : w < fs.length
  ·have hf := ht _ (getD_mem h0 hw)
   rw [decide_eq_true hw, inB_of h0 hw, drop_at (.i 0) h0 hw]
   rw [drop_at (.i 0) h0 hw] at hT
   have r1 : decide ((l.length + 1) * 32 ≤ room) = true := decide_eq_true (by unfold room; omega)
   have r2 : decide (l.length + 1 ≤ strMax) = true := decide_eq_true (by unfold strMax; omega)
   have e1 : ((fs.getD w.toNat (.i 0)).cell 1).toI = fS (fs.getD w.toNat (.i 0)) := rfl
   have w1' := wrapI (x := w + 1) (by omega) (by omega)
   simp only [_root_.cond_true, bnd_eq, r1, r2, Bool.and_self, e1, w1', wrapI (x := all + fS (fs.getD w.toNat (.i 0))) (by omega) (by omega), wrapI (x := w1 + fS (fs.getD w.toNat (.i 0))) (by omega) (by omega), fldsAt]
   have hc : (bif short then all == tmL 0 fs else false) = (t && isT (fs.getD w.toNat (.i 0))) ∧ TInv short (t && !(isT (fs.getD w.toNat (.i 0)))) (tmL 0 fs) (all + fS (fs.getD w.toNat (.i 0))) (fs.drop (w + 1).toNat) := by
    unfold TInv at hT ⊢
    cases short with
    | false => simp only [_root_.cond_false] at hT ⊢; subst hT; exact ⟨rfl, rfl⟩
    | true =>
     simp only [_root_.cond_true] at hT ⊢
     cases t with
     | false =>
      simp only [_root_.cond_false, Bool.false_and] at hT ⊢
      refine ⟨?_, by omega⟩
      simp; omega
     | true =>
      simp only [_root_.cond_true, Bool.true_and, tmL] at hT ⊢
      cases hi : isT (fs.getD w.toNat (.i 0)) with
      | true =>
       rw [hi] at hT
       simp only [_root_.cond_true, Bool.not_true, _root_.cond_false] at hT ⊢
       exact ⟨by simp; omega, by omega⟩
      | false =>
       rw [hi] at hT
       simp only [_root_.cond_false, Bool.not_false, _root_.cond_true] at hT ⊢
       refine ⟨?_, hT⟩
       have := tmL_bound (fs := fs.drop (w + 1).toNat) (a := all + fS (fs.getD w.toNat (.i 0))) (by omega) (fun x hx => h.size x (List.mem_of_mem_drop hx))
       simp; omega
   rw [hc.1]
   cases hti : (t && isT (fs.getD w.toNat (.i 0))) with
   | true =>
    simp only [_root_.cond_true]
    have ht2 : (t && !(isT (fs.getD w.toNat (.i 0)))) = false := (by decide : ∀ x y : Bool, (x && y) = true → (x && !y) = false) _ _ hti
    exact ih (w1, all + fS (fs.getD w.toNat (.i 0)), w + 1, b, l) ⟨by simp only; omega, by simp only; omega, by simp only; omega, by simp only; omega, by simp only; omega, by simp only; omega, by simp only; omega⟩ (by simp only; omega) false (ht2 ▸ hc.2)
   | false =>
    simp only [_root_.cond_false]
    have ht2 : (t && !(isT (fs.getD w.toNat (.i 0)))) = t := (by decide : ∀ x y : Bool, (x && y) = false → (x && !y) = x) _ _ hti
    obtain ⟨nl, e⟩ := ih (w1 + fS (fs.getD w.toNat (.i 0)), all + fS (fs.getD w.toNat (.i 0)), w + 1, false, l ++ [.a [.i (fN (fs.getD w.toNat (.i 0))), .i (fS (fs.getD w.toNat (.i 0))), .i (fT (fs.getD w.toNat (.i 0))), .i w1]]) ⟨by simp only; omega, by simp only; omega, by simp only; omega, by simp only; omega, by simp only; omega, by simp only; omega, by simp; omega⟩ (by simp only; omega) t (ht2 ▸ hc.2)
    exact ⟨nl, by rw [← List.append_cons] at e; exact e⟩
  ·have : w = fs.length := by omega
   subst this
   rw [decide_eq_false hw, drop_end (by omega)]
   exact ⟨b, by simp [fldsAt]⟩
end
def AtOk (n : Int) : List D → Prop
 | [] => True
 | f :: r => (0 ≤ (f.cell 3).toI ∧ (f.cell 3).toI + fS f ≤ n) ∧ AtOk n r
theorem fldsAt_ok : ∀ {fs : List D} {t : Bool} {a n : Int}, TypOk fs → 0 ≤ a → a + szL (flds t fs) ≤ n → AtOk n (fldsAt t a fs) ∧ TypOk (fldsAt t a fs)
 | [], _, _, _, _, _, _ => ⟨trivial, fun f hf => by simp [fldsAt] at hf⟩
 | f :: r, t, a, n, ht, h0, h1 => by
  have h2 := ht f (by simp)
  have h3 : TypOk r := fun x hx => ht x (by simp [hx])
  simp only [flds, fldsAt] at h1 ⊢
  cases hh : t && isT f with
  | true =>
   rw [hh] at h1
   simp only [_root_.cond_true] at h1 ⊢
   exact fldsAt_ok h3 h0 h1
  | false =>
   rw [hh] at h1
   simp only [_root_.cond_false, szL] at h1 ⊢
   have e : fS (.a [.i (fN f), .i (fS f), .i (fT f)]) = fS f := rfl
   rw [e] at h1
   obtain ⟨q1, q2⟩ := fldsAt_ok (t := t) (a := a + fS f) (n := n) h3 (by omega) (by omega)
   have hb := szL_bound (fs := flds t r) (fun x hx => (flds_ok (fun y hy => by have := h3 y hy; omega)).2 x hx)
   refine ⟨⟨⟨h0, by show a + fS f ≤ n; omega⟩, q1⟩, fun x hx => ?_⟩
   rcases List.mem_cons.1 hx with rfl | hx
   ·exact h2
   ·exact q2 x hx
section
variable {fs data : List D} {big : Bool}
theorem valOk_sub {f : D} {a : Int} (hf : 0 ≤ fT f ∧ fT f ≤ 3 ∧ 1 ≤ fS f ∧ fS f ≤ 255 ∧ (fT f ≤ 1 → fS f = 1 ∨ fS f = 2 ∨ fS f = 4)) (h0 : 0 ≤ a) (h1 : a + fS f ≤ data.length) (hb : BytesOk data) : ValOk (fS f) (fT f) ((data.take (a + fS f).toNat).drop a.toNat) := by
 have hl : ((data.take (a + fS f).toNat).drop a.toNat).length = (fS f).toNat := by simp; omega
 exact ⟨hf.1, hf.2.1, hf.2.2.2.2, by omega, fun x hx => hb x (List.mem_of_mem_take (List.mem_of_mem_drop hx)), by omega⟩
theorem atOk_get : ∀ {l : List D} {n : Int} {i : Nat}, AtOk n l → i < l.length → 0 ≤ ((l.getD i (.i 0)).cell 3).toI ∧ ((l.getD i (.i 0)).cell 3).toI + fS (l.getD i (.i 0)) ≤ n
 | f :: r, n, 0, h, _ => h.1
 | f :: r, n, i + 1, h, hi => by
  have := atOk_get (l := r) (i := i) h.2 (by simpa using hi)
  simpa using this
 | [], _, _, _, hi => by simp at hi
def valA (data : List D) (big : Bool) (f : D) : D := valD f (f.cell 3).toI data big
theorem valsL_map : ∀ {fs : List D} {t : Bool} {a : Int}, (fldsAt t a fs).map (valA data big) = valsL data big t a fs
 | [], _, _ => rfl
 | f :: r, t, a => by
  simp only [fldsAt, valsL]
  cases t && isT f with
  | true => exact valsL_map
  | false => simp only [_root_.cond_false, List.map_cons, valsL_map]; rfl
theorem G14x0x9_eq (hN : maxLen < N) {l : List D} (hl : l.length ≤ 255) (hd : data.length ≤ maxLen) (hb : BytesOk data) (h1 : AtOk data.length l) (h2 : TypOk l) : ∃ nl, G14x0x9 N l l.length big data 0 true [] = some (nl, l.map (valA data big)) := by
 have hm : maxLen = 9223372036854775807 := rfl
 have key := loop_indE (A := Int × Bool × LD) (X := Option (Bool × LD)) (S := fun x kr => S14x0x9 N l l.length big data x.1 x.2.1 x.2.2 (fun a b c => kr (a, b, c)) (fun p => some p)) (L := fun m x => L14x0x9 N l l.length big data m x.1 x.2.1 x.2.2 (fun p => some p)) (fun m x => rfl)
  (fun x r => ∃ nl, r = some (nl, x.2.2 ++ (l.drop x.1.toNat).map (valA data big))) (fun x => 0 ≤ x.1 ∧ x.1 ≤ l.length ∧ (x.2.2.length : Int) ≤ x.1) (fun x => (l.length - x.1).toNat) ?_ N (0, true, []) ⟨by show (0 : Int) ≤ 0; omega, by show (0 : Int) ≤ _; omega, by simp⟩ (by simp; omega)
 ·obtain ⟨nl, k2⟩ := key
  exact ⟨nl, Eq.trans k2 (by simp)⟩
 ·rintro ⟨w, b, acc⟩ kr ⟨h0, h3, h4⟩ ih
  simp only at h0 h3 h4 ih ⊢
  unfold S14x0x9
  by_cases hw : w < l.length
  ·have hf := h2 _ (getD_mem (fs := l) h0 hw)
   have ha := atOk_get (i := w.toNat) h1 (by omega)
   have r1 : decide ((acc.length + 1) * 48 ≤ room) = true := decide_eq_true (by unfold room; omega)
   have r2 : decide (acc.length + 1 ≤ strMax) = true := decide_eq_true (by unfold strMax; omega)
   have q := G38x0_eq (N := N) (s := fS (l.getD w.toNat (.i 0))) (t := fT (l.getD w.toNat (.i 0))) (at_ := ((l.getD w.toNat (.i 0)).cell 3).toI) (data := data) hN big ha.1 ha.2 (by omega) hd (valOk_sub hf ha.1 ha.2 hb)
   rw [decide_eq_true hw, inB_of h0 hw, drop_at (.i 0) h0 hw]
   have q' : G38x0 N ((l.getD w.toNat (.i 0)).cell 1).toI ((l.getD w.toNat (.i 0)).cell 2).toI ((l.getD w.toNat (.i 0)).cell 3).toI data big = _ := q
   simp only [_root_.cond_true, bnd_eq, q', Option.isSome_some, getD_some, r1, r2, Bool.and_self, wrapI (x := w + 1) (by omega) (by omega), List.map_cons]
   obtain ⟨nl, e⟩ := ih (w + 1, false, acc ++ [valA data big (l.getD w.toNat (.i 0))]) ⟨by simp only; omega, by simp only; omega, by simp; omega⟩ (by simp only; omega)
   exact ⟨nl, by rw [← List.append_cons] at e; exact e⟩
  ·have : w = l.length := by omega
   subst this
   rw [decide_eq_false hw, drop_end (by omega)]
   exact ⟨b, by simp⟩
theorem G14x0_eq (hN : maxLen < N) (h : FldsOk fs) (ht : TypOk fs) (hd : data.length ≤ maxLen) (hb : BytesOk data) (kind : Int) (hlen : szL (flds (kind == 3) fs) ≤ data.length) :
  ∃ nl, G14x0 N big fs (tmL 0 fs) kind data = some (nl, valsL data big (kind == 3) 0 fs) := by
 obtain ⟨n1, q1⟩ := G18x0_eq (N := N) hN h ht (kind == 3)
 obtain ⟨a1, a2⟩ := fldsAt_ok (t := kind == 3) (a := 0) (n := data.length) ht (by omega) (by omega)
 obtain ⟨n2, q2⟩ := G14x0x9_eq (N := N) (big := big) hN (l := fldsAt (kind == 3) 0 fs) (by have := fldsAt_len (fs := fs) (t := kind == 3) (a := 0); have := h.len; omega) hd hb a1 a2
 refine ⟨n2, ?_⟩
 unfold G14x0 F14x0
 simp only [bnd_eq]
 rw [q1]
 simp only [Option.isSome_some, getD_some, _root_.cond_true]
 rw [q2, valsL_map]
 rfl
theorem G16x0x12_eq (hN : maxLen < N) {l : List D} (hl : l.length ≤ 255) (hd : data.length ≤ maxLen) (hb : BytesOk data) (ht : TypOk l) (hlen : szL l ≤ data.length) : ∃ nl, G16x0x12 N l l.length big data 0 0 true [] = some (nl, valsL data big false 0 l) := by
 have hm : maxLen = 9223372036854775807 := rfl
 have key := loop_indE (A := Int × Int × Bool × LD) (X := Option (Bool × LD)) (S := fun x kr => S16x0x12 N l l.length big data x.1 x.2.1 x.2.2.1 x.2.2.2 (fun a b c d => kr (a, b, c, d)) (fun p => some p)) (L := fun m x => L16x0x12 N l l.length big data m x.1 x.2.1 x.2.2.1 x.2.2.2 (fun p => some p)) (fun m x => rfl)
  (fun x r => ∃ nl, r = some (nl, x.2.2.2 ++ valsL data big false x.1 (l.drop x.2.1.toNat))) (fun x => 0 ≤ x.2.1 ∧ x.2.1 ≤ l.length ∧ (x.2.2.2.length : Int) ≤ x.2.1 ∧ 0 ≤ x.1 ∧ x.1 + szL (l.drop x.2.1.toNat) ≤ data.length) (fun x => (l.length - x.2.1).toNat) ?_ N (0, 0, true, []) ⟨by show (0 : Int) ≤ 0; omega, by show (0 : Int) ≤ _; omega, by simp, by show (0 : Int) ≤ 0; omega, by simpa using hlen⟩ (by simp; omega)
 ·obtain ⟨nl, k2⟩ := key
  exact ⟨nl, Eq.trans k2 (by simp)⟩
 ·rintro ⟨a, w, b, acc⟩ kr ⟨h0, h3, h4, h5, h6⟩ ih
  simp only at h0 h3 h4 h5 h6 ih ⊢
  unfold S16x0x12
  by_cases hw : w < l.length
  ·have hf := ht _ (getD_mem (fs := l) h0 hw)
   rw [drop_at (.i 0) h0 hw] at h6
   simp only [szL] at h6
   have hb2 := szL_bound (fs := l.drop (w + 1).toNat) (fun x hx => by have := ht x (List.mem_of_mem_drop hx); omega)
   have r1 : decide ((acc.length + 1) * 48 ≤ room) = true := decide_eq_true (by unfold room; omega)
   have r2 : decide (acc.length + 1 ≤ strMax) = true := decide_eq_true (by unfold strMax; omega)
   have e1 : ((l.getD w.toNat (.i 0)).cell 1).toI = fS (l.getD w.toNat (.i 0)) := rfl
   have e2 : ((l.getD w.toNat (.i 0)).cell 2).toI = fT (l.getD w.toNat (.i 0)) := rfl
   have q := G39x0_eq (N := N) hN (valOk_sub (data := data) (a := a) hf h5 (by omega) hb) big
   rw [decide_eq_true hw, inB_of h0 hw, drop_at (.i 0) h0 hw, e1, e2, wrapI (x := a + fS (l.getD w.toNat (.i 0))) (by omega) (by omega)]
   simp only [_root_.cond_true, bnd_eq, decide_eq_true h5, decide_eq_true (show a ≤ a + fS (l.getD w.toNat (.i 0)) by omega), decide_eq_true (show a + fS (l.getD w.toNat (.i 0)) ≤ (data.length : Int) by omega), q, Option.isSome_some, getD_some, r1, r2, Bool.and_self, wrapI (x := w + 1) (by omega) (by omega), valsL, Bool.false_and, _root_.cond_false]
   obtain ⟨nl, e⟩ := ih (a + fS (l.getD w.toNat (.i 0)), w + 1, false, acc ++ [valD (l.getD w.toNat (.i 0)) a data big]) ⟨by simp only; omega, by simp only; omega, by simp; omega, by simp only; omega, by simp only; omega⟩ (by simp only; omega)
   exact ⟨nl, by rw [← List.append_cons] at e; exact e⟩
  ·have : w = l.length := by omega
   subst this
   rw [decide_eq_false hw, drop_end (by omega)]
   exact ⟨b, by simp [valsL]⟩
theorem valsL_flds_false : ∀ {fs : List D} {a : Int}, valsL data big false a (flds false fs) = valsL data big false a fs
 | [], _ => rfl
 | f :: r, a => by
  simp only [flds, valsL, Bool.false_and, _root_.cond_false, valsL_flds_false (fs := r)]
  rfl
theorem valsL_flds : ∀ {fs : List D} {t : Bool} {a : Int}, valsL data big false a (flds t fs) = valsL data big t a fs
 | [], _, _ => rfl
 | f :: r, t, a => by
  simp only [flds, valsL]
  cases t && isT f with
  | true => exact valsL_flds_false
  | false =>
   simp only [valsL, _root_.cond_false, Bool.false_and, valsL_flds (fs := r)]
   rfl
theorem TypOk.flds : ∀ {fs : List D} {t : Bool}, TypOk fs → TypOk (flds t fs)
 | [], _, _, f, hf => by simp [Proofs.Ytfogaejiehebeaa.flds] at hf
 | f :: r, t, h, x, hx => by
  have h3 : TypOk r := fun x hx => h x (by simp [hx])
  simp only [Proofs.Ytfogaejiehebeaa.flds] at hx
  cases hh : t && isT f with
  | true => rw [hh] at hx; exact TypOk.flds h3 x hx
  | false =>
   rw [hh] at hx
   rcases List.mem_cons.1 hx with rfl | hx
   ·exact h f (by simp)
   ·exact TypOk.flds h3 x hx
theorem G16x0_eq (hN : maxLen < N) (h : FldsOk fs) (ht : TypOk fs) (hd : data.length ≤ maxLen) (hb : BytesOk data) (kind : Int) (hlen : szL (flds (kind == 3) fs) ≤ data.length) :
  ∃ nl, G16x0 N big fs kind data = some (nl, valsL data big (kind == 3) 0 fs) := by
 obtain ⟨n1, q1⟩ := G24x0_eq (N := N) hN h (kind == 3)
 obtain ⟨n2, q2⟩ := G16x0x12_eq (N := N) (big := big) hN (l := flds (kind == 3) fs) (h.flds _).len hd hb (ht.flds (t := kind == 3)) hlen
 refine ⟨n2, ?_⟩
 unfold G16x0 F16x0
 simp only [bnd_eq]
 rw [q1]
 simp only [Option.isSome_some, getD_some, _root_.cond_true]
 rw [q2, valsL_flds]
 rfl
end
end Go.Proofs.Ytfogaejiehebeaa

namespace Go.Proofs.Ytfogaejiehebeaa
open Go Go.AM
set_option maxRecDepth 100000
set_option maxHeartbeats 4000000
set_option linter.unusedVariables false
variable {N : Nat}
section
variable {vs : List D}
end
def OkT (a : Ab) : Prop := ∀ j, a.kn j = true → TypOk (a.fs j)
theorem OkT.step {a : Ab} (h : OkT a) {x : D} (hx : errE a x = 0) : OkT (stepA a x) := by
 unfold stepA stepD
 cases hk : kX x == 1 with
 | true =>
  have hE := entE_ok hx
  have hf := defE_typ (hE.d (by simpa using hk)).2
  intro j hj
  simp only [_root_.cond_true, upA] at hj ⊢
  by_cases e : j = (sX x).toNat
  ·simp only [if_pos e]; exact hf
  ·simp only [if_neg e] at hj ⊢; exact h j hj
 | false => exact h
theorem OkT.start : OkT Ab.start := fun j hj => by simp [Ab.start] at hj
def valsX (a : Ab) (x : D) : List D := valsL (bX x) (a.bg (sX x).toNat) (kX x == 3) 0 (a.fs (sX x).toNat)
theorem data_ok {a : Ab} {x : D} (ha : OkA a) (ht : OkT a) (h : errE a x = 0) (hx : EntD x) (hk : kX x ≠ 1) : FldsOk (a.fs (sX x).toNat) ∧ TypOk (a.fs (sX x).toNat) ∧ szL (flds (kX x == 3) (a.fs (sX x).toNat)) ≤ (bX x).length ∧ (bX x).length ≤ maxLen ∧ BytesOk (bX x) ∧ a.kn (sX x).toNat = true := by
 have hE := entE_ok h
 have hkn := (hE.n hk).1
 have hf := ha _ hkn
 refine ⟨hf, ht _ hkn, ?_, hx.b, hx.y, hkn⟩
 by_cases h3 : kX x = 3
 ·obtain ⟨t0, l0, o0, o1, hl⟩ := hE.h h3
  have := (szL_flds (a := 0) (by omega) hf.size).2 t0
  rw [h3]
  show szL (flds true _) ≤ _
  rw [this]
  omega
 ·have h2 : kX x = 2 := by have := hE.k; omega
  have := hE.t h2
  rw [h2]
  show szL (flds false _) ≤ _
  rw [szL_flds_false]
  omega
section
variable {es : List D}
end
end Go.Proofs.Ytfogaejiehebeaa

namespace Go.Proofs.Ytfogaejiehebeaa
open Go Go.AM
set_option maxRecDepth 100000
set_option maxHeartbeats 4000000
set_option linter.unusedVariables false
variable {N : Nat}
def abN : Ab → List D → Nat → Ab
 | a, _, 0 => a
 | a, [], _ + 1 => a
 | a, x :: r, i + 1 => abN (stepA a x) r i
theorem abN_ok : ∀ {es : List D} {a : Ab} {i : Nat}, OkA a → OkT a → errsA a es = 0 → i < es.length → OkA (abN a es i) ∧ OkT (abN a es i) ∧ errE (abN a es i) (es.getD i (.i 0)) = 0
 | x :: r, a, 0, ha, ht, h, _ => ⟨ha, ht, (errs_cons h).1⟩
 | x :: r, a, i + 1, ha, ht, h, hi => by
  obtain ⟨h1, h2⟩ := errs_cons h
  exact abN_ok (es := r) (a := stepA a x) (ha.step h1) (ht.step h1) h2 (by simpa using hi)
 | [], _, _, _, _, _, hi => by simp at hi
theorem abN_succ : ∀ {es : List D} {a : Ab} {i : Nat}, i < es.length → abN a es (i + 1) = stepA (abN a es i) (es.getD i (.i 0))
 | x :: r, a, 0, _ => by cases r <;> rfl
 | x :: r, a, i + 1, hi => abN_succ (es := r) (a := stepA a x) (by simpa using hi)
 | [], _, _, hi => by simp at hi
theorem pl_at : ∀ {es ds : List D} {a : Ab} {i : Nat}, PlL a es ds → i < es.length → defOk (abN a es i) (es.getD i (.i 0)) (ds.getD i (.i 0))
 | x :: r, ds, a, 0, h, _ => by
  obtain ⟨d, r', rfl, h1, h2⟩ := h.at_
  exact h1
 | x :: r, ds, a, i + 1, h, hi => by
  obtain ⟨d, r', rfl, h1, h2⟩ := h.at_
  exact pl_at (es := r) (a := stepA a x) h2 (by simpa using hi)
 | [], _, _, _, _, hi => by simp at hi
def dataE (es : List D) (k : Int) : Int := bif fileE es != 0 then fileE es else bif (bif decide (k < 0) then true else decide (k ≥ (es.length : Int))) then 4 else bif kX (es.getD k.toNat (.i 0)) == 1 then 7 else 0
section
variable {es : List D}
theorem dataE_ok {k : Int} (h : dataE es k = 0) : fileE es = 0 ∧ 0 ≤ k ∧ k < es.length ∧ kX (es.getD k.toNat (.i 0)) ≠ 1 := by
 unfold dataE at h
 cases h1 : fileE es != 0 with
 | true => rw [h1] at h; exact absurd h (by simpa using h1)
 | false =>
  rw [h1] at h
  simp only [_root_.cond_false] at h
  by_cases h2 : k < 0
  ·rw [decide_eq_true h2] at h; exact absurd (show (4 : Int) = 0 from h) (by decide)
  ·by_cases h3 : k ≥ (es.length : Int)
   ·rw [decide_eq_false h2, decide_eq_true h3] at h; exact absurd (show (4 : Int) = 0 from h) (by decide)
   ·rw [decide_eq_false h2, decide_eq_false h3] at h
    simp only [_root_.cond_false] at h
    refine ⟨by simpa using h1, by omega, by omega, fun h4 => ?_⟩
    rw [show (kX (es.getD k.toNat (.i 0)) == 1) = true from by rw [h4]; rfl] at h
    exact absurd (show (7 : Int) = 0 from h) (by decide)
theorem data15 (hN : maxLen < N) (hes : ∀ x ∈ es, EntD x) (k : Int) : G15x0 N es k = some (dataE es k) := by
 unfold G15x0 F15x0 dataE
 rw [(check_fileA (N := N) hN hes).2]
 simp only [bnd_eq, Option.isSome_some, _root_.cond_true, getD_some]
 cases h1 : fileE es != 0 with
 | true => rfl
 | false =>
  simp only [_root_.cond_false]
  by_cases h2 : k < 0
  ·rw [decide_eq_true h2]; rfl
  ·by_cases h3 : k ≥ (es.length : Int)
   ·rw [decide_eq_false h2, decide_eq_true h3]; rfl
   ·rw [decide_eq_false h2, decide_eq_false h3, inB_of (by omega) (by omega)]
    simp only [_root_.cond_false, _root_.cond_true]
    cases h4 : ((es.getD k.toNat (.i 0)).cell 0).toI == 1 with
    | true => rfl
    | false => rfl
theorem take_len {n : Nat} (h : n ≤ es.length) : ((es.take n).drop 0).length = n := by simp; omega
theorem take_get {n : Nat} {i : Int} (h0 : 0 ≤ i) (h1 : i < n) (h : n ≤ es.length) : ((es.take n).drop 0).getD i.toNat (.i 0) = es.getD i.toNat (.i 0) := by
 rw [List.drop_zero, List.getD_eq_getElem?_getD, List.getD_eq_getElem?_getD, List.getElem?_take, if_pos (by omega)]
theorem walk_loop (hN : maxLen < N) (hes : ∀ x ∈ es, EntD x) (hl : es.length ≤ 50000) (he : errsA Ab.start es = 0) {n : Nat} (hn : n ≤ es.length) : ∀ (m : Nat) (i : Int) (p s : D), 0 ≤ i → i ≤ n → (n - i).toNat < m → Wk p s (abN Ab.start es i.toNat) i →
  ∃ p' s', L13x0x24 N ((es.take n).drop 0) n m i p (fun p => some p) = some p' ∧ Wk p' s' (abN Ab.start es n) n := by
 intro m
 induction m with
 | zero => intro i p s _ _ h; omega
 | succ m ih =>
  intro i p s h0 h1 hm hs
  unfold L13x0x24 S13x0x24
  by_cases hi : i < n
  ·have hx : EntD (es.getD i.toNat (.i 0)) := hes _ (getD_mem (fs := es) h0 (by omega))
   have hE := (abN_ok (i := i.toNat) OkA.start OkT.start he (by omega)).2.2
   obtain ⟨p', s', q1, q2, hs'⟩ := take_abs hN hs hx h0 (by omega) hE
   rw [decide_eq_true hi, inB_of h0 (by rw [take_len hn]; omega), take_get h0 hi hn, q1]
   simp only [_root_.cond_true, bnd_eq, Option.isSome_some, getD_some, wrapI (x := i + 1) (by omega) (by omega)]
   have hnx : (i + 1).toNat = i.toNat + 1 := by omega
   refine ih (i + 1) p' s' (by omega) (by omega) (by omega) ?_
   rw [hnx, abN_succ (by omega)]
   exact hs'
  ·have : i = n := by omega
   subst this
   rw [decide_eq_false hi]
   exact ⟨p, s, rfl, by simpa using hs⟩
structure DatS (a : Ab) (x : D) (t : Ty0) : Prop where
 g : t.2.1 = a.bg (sX x).toNat
 f : t.2.2.2.2.1 = a.fs (sX x).toNat
 t : t.2.2.2.2.2.2.1 = tmL 0 (a.fs (sX x).toNat)
theorem data13 (hN : maxLen < N) (hes : ∀ x ∈ es, EntD x) (k : Int) : ∃ t : Ty0, G13x0 N es k = some t ∧ t.2.2.2.2.2.2.2 = dataE es k ∧ (dataE es k = 0 → DatS (abN Ab.start es k.toNat) (es.getD k.toNat (.i 0)) t) := by
 have hmx : maxLen = 9223372036854775807 := rfl
 unfold G13x0 F13x0 dataE
 rw [(check_fileA (N := N) hN hes).1]
 simp only [bnd_eq, Option.isSome_some, _root_.cond_true, getD_some]
 cases h1 : fileE es != 0 with
 | true => exact ⟨_, rfl, rfl, fun h => absurd h (by simpa using h1)⟩
 | false =>
  have hz : fileE es = 0 := by simpa using h1
  obtain ⟨hl, he⟩ := fileE_ok hz
  simp only [_root_.cond_false]
  unfold V35x0 F35x0
  rw [wrapI (x := (es.length : Int) - 1) (by omega) (by omega)]
  by_cases h2 : k < 0
  ·rw [decide_eq_true h2, decide_eq_false (show ¬ k ≥ 0 by omega)]; exact ⟨_, rfl, rfl, fun h => absurd (show (4 : Int) = 0 from h) (by decide)⟩
  ·by_cases h3 : k ≥ (es.length : Int)
   ·rw [decide_eq_false h2, decide_eq_true h3, decide_eq_true (show k ≥ 0 by omega), decide_eq_false (show ¬ k ≤ (es.length : Int) - 1 by omega)]; exact ⟨_, rfl, rfl, fun h => absurd (show (4 : Int) = 0 from h) (by decide)⟩
   ·obtain ⟨p', s', q1, q2⟩ := walk_loop hN hes hl he (n := k.toNat) (by omega) N 0 (V36x0 N) zeroS (by omega) (by omega) (by omega) (by simpa [abN] using start70)
    have y1 : G13x0x24 N ((es.take k.toNat).drop 0) (((es.take k.toNat).drop 0).length : Int) 0 (V36x0 N) = some p' := by rw [take_len (by omega)]; exact q1
    rw [decide_eq_false h2, decide_eq_false h3, decide_eq_true (show k ≥ 0 by omega), decide_eq_true (show k ≤ (es.length : Int) - 1 by omega), decide_eq_true (show k ≤ (es.length : Int) by omega), y1, inB_of (by omega) (by omega)]
    simp only [_root_.cond_false, _root_.cond_true, Bool.not_true, Bool.and_true, Option.isSome_some, getD_some]
    cases h4 : ((es.getD k.toNat (.i 0)).cell 0).toI == 1 with
    | true => exact ⟨_, rfl, rfl, fun h => absurd (show (7 : Int) = 0 from h) (by decide)⟩
    | false =>
     have hk : kX (es.getD k.toNat (.i 0)) ≠ 1 := by simpa [kX] using h4
     obtain ⟨oa, ot, oe⟩ := abN_ok (i := k.toNat) OkA.start OkT.start he (by omega)
     have hE := entE_ok oe
     obtain ⟨i1, i2⟩ := hE.s
     simp only [_root_.cond_false]
     rw [show inB ((es.getD k.toNat (.i 0)).cell 1).toI 16 = true from i1]
     obtain ⟨_, d1, d2, d3, d4, d5⟩ := q2.pp.df _ i2 (hE.n hk).1
     exact ⟨_, rfl, rfl, fun _ => ⟨d1, d3, d5⟩⟩
def valsR (es : List D) (k : Int) : List D := bif dataE es k != 0 then [] else valsX (abN Ab.start es k.toNat) (es.getD k.toNat (.i 0))
theorem vals5 (hN : maxLen < N) (hes : ∀ x ∈ es, EntD x) (k : Int) : ∃ nl, G5x0 N es k = some (nl, valsR es k, dataE es k) := by
 obtain ⟨t, h1, h2, h3⟩ := data13 hN hes k
 unfold G5x0 F5x0 valsR
 rw [h1]
 simp only [bnd_eq, Option.isSome_some, _root_.cond_true, getD_some, h2]
 cases hd : dataE es k != 0 with
 | true => exact ⟨_, rfl⟩
 | false =>
  have hz : dataE es k = 0 := by simpa using hd
  obtain ⟨z1, z2, z3, z4⟩ := dataE_ok hz
  obtain ⟨hl, he⟩ := fileE_ok z1
  obtain ⟨oa, ot, oe⟩ := abN_ok (i := k.toNat) OkA.start OkT.start he (by omega)
  have hx : EntD (es.getD k.toNat (.i 0)) := hes _ (getD_mem (fs := es) z2 z3)
  obtain ⟨e1, e2, e3, e4, e5, e6⟩ := data_ok oa ot oe hx z4
  obtain ⟨g1, g2, g3⟩ := h3 hz
  obtain ⟨nl, q⟩ := G14x0_eq (N := N) (big := t.2.1) hN e1 e2 e4 e5 (kX (es.getD k.toNat (.i 0))) e3
  rw [inB_of z2 z3, g2, g3]
  have q' : G14x0 N t.2.1 ((abN Ab.start es k.toNat).fs (sX (es.getD k.toNat (.i 0))).toNat) (tmL 0 ((abN Ab.start es k.toNat).fs (sX (es.getD k.toNat (.i 0))).toNat)) ((es.getD k.toNat (.i 0)).cell 0).toI ((es.getD k.toNat (.i 0)).cell 4).items = _ := q
  rw [q']
  simp only [Option.isSome_some, _root_.cond_true, getD_some, _root_.cond_false]
  refine ⟨nl, ?_⟩
  unfold valsX
  rw [g1, hz]
theorem vals6 (hN : maxLen < N) (hes : ∀ x ∈ es, EntD x) (k : Int) : ∃ nl, G6x0 N es k = some (nl, valsR es k, dataE es k) := by
 unfold G6x0 F6x0 valsR
 rw [data15 hN hes]
 simp only [bnd_eq, Option.isSome_some, _root_.cond_true, getD_some]
 cases hd : dataE es k != 0 with
 | true => exact ⟨_, rfl⟩
 | false =>
  have hz : dataE es k = 0 := by simpa using hd
  obtain ⟨z1, z2, z3, z4⟩ := dataE_ok hz
  obtain ⟨hl, he⟩ := fileE_ok z1
  obtain ⟨oa, ot, oe⟩ := abN_ok (i := k.toNat) OkA.start OkT.start he (by omega)
  have hx : EntD (es.getD k.toNat (.i 0)) := hes _ (getD_mem (fs := es) z2 z3)
  obtain ⟨e1, e2, e3, e4, e5, e6⟩ := data_ok oa ot oe hx z4
  obtain ⟨b, b1, ds, p1, p2⟩ := places_ref (N := N) hN hes z1
  obtain ⟨nlf, hdf⟩ := (pl_at (i := k.toNat) p2 (by omega)).2 z4
  have hlen := p2.len
  rw [p1]
  simp only [Option.isSome_some, _root_.cond_true, getD_some, _root_.cond_false]
  rw [inB_of z2 (by omega), inB_of z2 z3, hdf]
  obtain ⟨nl, q⟩ := G16x0_eq (N := N) (big := (abN Ab.start es k.toNat).bg (sX (es.getD k.toNat (.i 0))).toNat) hN e1 e2 e4 e5 (kX (es.getD k.toNat (.i 0))) e3
  have q' : G16x0 N ((abN Ab.start es k.toNat).bg (sX (es.getD k.toNat (.i 0))).toNat) ((abN Ab.start es k.toNat).fs (sX (es.getD k.toNat (.i 0))).toNat) ((es.getD k.toNat (.i 0)).cell 0).toI ((es.getD k.toNat (.i 0)).cell 4).items = _ := q
  refine ⟨nl, ?_⟩
  simp only [List.getD_cons_zero, List.length_cons, List.length_nil, D.cell, List.getD_cons_succ, D.toB, D.items, show inB 0 (0 + 1) = true from rfl, _root_.cond_true] at q' ⊢
  rw [q', hz]
  rfl
end
end Go.Proofs.Ytfogaejiehebeaa

namespace Go.Proofs.Ytfogaejiehebeaa
open Go Go.AM
set_option maxRecDepth 100000
set_option maxHeartbeats 4000000
set_option linter.unusedVariables false
variable {N : Nat}
def nbS (s n : Int) (big : Bool) : List D := bif s == 1 then nb1 n else bif s == 2 then nb2 n big else nb4 n big
theorem nb42 (hN : maxLen < N) {s : Int} (h : Sz s) (n : Int) (big : Bool) : G42x0 N n s big = some (nbS s n big) := by
 rcases h with rfl | rfl | rfl
 ·exact P67_1 hN n big
 ·exact P67_2 hN n big
 ·exact P67_4 hN n big
theorem nb47 (hN : maxLen < N) {s : Int} (h : Sz s) (n : Int) (big : Bool) : G47x0 N n s big = some (nbS s n big) := by
 rcases h with rfl | rfl | rfl
 ·exact P69_1 hN n big
 ·exact P69_2 hN n big
 ·exact P69_4 hN n big
theorem nbS_len {s : Int} (h : Sz s) (n : Int) (big : Bool) : ((nbS s n big).length : Int) = s := by
 rcases h with rfl | rfl | rfl
 ·rfl
 ·cases big <;> rfl
 ·cases big <;> rfl
theorem nbS_ok {s : Int} (h : Sz s) (n : Int) (big : Bool) : BytesOk (nbS s n big) := by
 rcases h with rfl | rfl | rfl
 ·intro x hx
  simp only [nbS, nb1] at hx
  have : x = bt n 0 := by simpa using hx
  rw [this]; exact bt_ok n 0
 ·exact nb2_ok n big
 ·exact nb4_ok n big
def leastV (s : Int) (sg : Bool) : Int := bif sg then -(missV s true) - 1 else 0
def encE (s t vi : Int) (vt : List UInt8) (vm big : Bool) : Int × List D :=
 bif (bif t == 1 then true else t == 0) then
  bif vm then (bif (bif vi != 0 then true else !(vt == [])) then (2, []) else (0, nbS s (missV s (t == 1)) big))
  else bif !(vt == []) then (2, []) else bif !inI vi (leastV s (t == 1)) (missV s (t == 1) - 1) then (9, []) else (0, nbS s vi big)
 else bif t == 2 then
  bif vm then (bif (bif vi != 0 then true else !(vt == [])) then (2, []) else (0, List.replicate s.toNat (.i 0)))
  else bif (bif (bif vi != 0 then true else vt == []) then true else decide (Lib.indexByte vt 0 ≥ 0)) then (2, []) else bif decide ((vt.length : Int) > s) then (3, []) else (0, bytesD vt ++ List.replicate (s - vt.length).toNat (.i 0))
 else
  bif vm then (2, []) else bif (bif vi != 0 then true else (vt.length : Int) != s) then (2, []) else (0, bytesD vt)
theorem bytesD_len (l : List UInt8) : (bytesD l).length = l.length := by unfold bytesD; simp
theorem bytesD_ok (l : List UInt8) : BytesOk (bytesD l) := by
 intro x hx
 unfold bytesD at hx
 obtain ⟨c, _, rfl⟩ := List.mem_map.1 hx
 have := c.toNat_lt
 simp only [byteD, D.toI]
 omega
theorem zeros_ok (n : Nat) : BytesOk (List.replicate n (.i 0)) := fun x hx => by
 rw [(List.mem_replicate.1 hx).2]; exact ⟨by decide, by decide⟩
theorem encE_ok {s t vi : Int} {vt : List UInt8} {vm big : Bool} (hs : 1 ≤ s ∧ s ≤ 255) (hz : t ≤ 1 → s = 1 ∨ s = 2 ∨ s = 4) (h0 : 0 ≤ t ∧ t ≤ 3) (h : (encE s t vi vt vm big).1 = 0) : ((encE s t vi vt vm big).2.length : Int) = s ∧ BytesOk (encE s t vi vt vm big).2 := by
 unfold encE at h ⊢
 cases c1 : (bif t == 1 then true else t == 0) with
 | true =>
  have ht : Sz s := hz (by cases c2 : t == 1 <;> rw [c2] at c1 <;> simp at c1 c2 <;> omega)
  rw [c1] at h
  simp only [_root_.cond_true] at h ⊢
  cases vm with
  | true =>
   simp only [_root_.cond_true] at h ⊢
   cases c3 : (bif vi != 0 then true else !(vt == [])) with
   | true => rw [c3] at h; exact absurd (show (2 : Int) = 0 from h) (by decide)
   | false => exact ⟨nbS_len ht _ _, nbS_ok ht _ _⟩
  | false =>
   simp only [_root_.cond_false] at h ⊢
   cases c3 : !(vt == []) with
   | true => rw [c3] at h; exact absurd (show (2 : Int) = 0 from h) (by decide)
   | false =>
    rw [c3] at h
    simp only [_root_.cond_false] at h ⊢
    cases c4 : !inI vi (leastV s (t == 1)) (missV s (t == 1) - 1) with
    | true => rw [c4] at h; exact absurd (show (9 : Int) = 0 from h) (by decide)
    | false => exact ⟨nbS_len ht _ _, nbS_ok ht _ _⟩
 | false =>
  rw [c1] at h
  simp only [_root_.cond_false] at h ⊢
  cases c2 : t == 2 with
  | true =>
   rw [c2] at h
   simp only [_root_.cond_true] at h ⊢
   cases vm with
   | true =>
    simp only [_root_.cond_true] at h ⊢
    cases c3 : (bif vi != 0 then true else !(vt == [])) with
    | true => rw [c3] at h; exact absurd (show (2 : Int) = 0 from h) (by decide)
    | false => exact ⟨by simp only [_root_.cond_false, List.length_replicate]; omega, zeros_ok _⟩
   | false =>
    simp only [_root_.cond_false] at h ⊢
    cases c3 : (bif (bif vi != 0 then true else vt == []) then true else decide (Lib.indexByte vt 0 ≥ 0)) with
    | true => rw [c3] at h; exact absurd (show (2 : Int) = 0 from h) (by decide)
    | false =>
     rw [c3] at h
     simp only [_root_.cond_false] at h ⊢
     cases c4 : decide ((vt.length : Int) > s) with
     | true => rw [c4] at h; exact absurd (show (3 : Int) = 0 from h) (by decide)
     | false =>
      have : ¬ (vt.length : Int) > s := by simpa using c4
      refine ⟨?_, ?_⟩
      ·simp only [_root_.cond_false, List.length_append, List.length_replicate, bytesD_len]; omega
      ·simp only [_root_.cond_false]; exact (bytesD_ok vt).append (zeros_ok _)
  | false =>
   rw [c2] at h
   simp only [_root_.cond_false] at h ⊢
   cases vm with
   | true => exact absurd (show (2 : Int) = 0 from h) (by decide)
   | false =>
    simp only [_root_.cond_false] at h ⊢
    cases c3 : (bif vi != 0 then true else (vt.length : Int) != s) with
    | true => rw [c3] at h; exact absurd (show (2 : Int) = 0 from h) (by decide)
    | false =>
     have : (vt.length : Int) = s := by
      cases c4 : vi != 0 with
      | true => rw [c4] at c3; cases c3
      | false => rw [c4] at c3; simpa using c3
     simp only [_root_.cond_false]
     exact ⟨by rw [bytesD_len]; exact this, bytesD_ok vt⟩
theorem miss_some {s : Int} (hs : 1 ≤ s ∧ s ≤ 255) : ∃ m, G41x0 N s false = some m := by
 unfold G41x0 F41x0
 rw [wrapI (x := 8 * s) (by omega) (by omega), decide_eq_true (show (0 : Int) ≤ 8 * s by omega)]
 exact ⟨_, rfl⟩
theorem V43_eq (vt : List UInt8) : V43x0 N vt = bif ([0] : List UInt8) == vt then true else decide (Lib.indexByte vt 0 ≥ 0) := by
 unfold V43x0 F43x0 V67x0 F67x0 V78x0 F78x0 V82x0 F82x0
 cases ([0] : List UInt8) == vt <;> rfl
theorem idx_self {vt : List UInt8} (h : (([0] : List UInt8) == vt) = true) : decide (Lib.indexByte vt 0 ≥ 0) = true := by
 have := eq_of_beq h
 rw [← this]; decide
theorem V43_idx (vt : List UInt8) : V43x0 N vt = decide (Lib.indexByte vt 0 ≥ 0) := by
 rw [V43_eq]
 cases h : ([0] : List UInt8) == vt with
 | true => exact (idx_self h).symm
 | false => rfl
theorem low21 {s : Int} (h : Sz s) (sg : Bool) : V21x0x20 N (missV s sg) 0 sg = leastV s sg := by
 rcases h with rfl | rfl | rfl <;> cases sg <;> kernel_rfl
theorem low25 {s : Int} (h : Sz s) (sg : Bool) : G25x0x68 N 0 sg s = some (leastV s sg) := by
 rcases h with rfl | rfl | rfl <;> cases sg <;> kernel_rfl
theorem most_wrap {s : Int} (h : Sz s) (sg : Bool) : IntKind.wrap .i64 (missV s sg - 1) = missV s sg - 1 := by
 rcases h with rfl | rfl | rfl <;> cases sg <;> kernel_rfl
theorem in35 (a b c : Int) : V35x0 N a b c = inI a b c := V35x0_eq a b c
theorem out49 (a b c : Int) : V49x0 N a b c = !inI a b c := V49x0_eq a b c
theorem pad_eq {s : Int} {vt : List UInt8} (h0 : 0 ≤ s) (h : ¬ (vt.length : Int) > s) : (bytesD vt).take (List.replicate s.toNat ((.i 0) : D)).length ++ (List.replicate s.toNat ((.i 0) : D)).drop (bytesD vt).length = bytesD vt ++ List.replicate (s - vt.length).toNat (.i 0) := by
 rw [List.length_replicate, List.take_of_length_le (by rw [bytesD_len]; omega), List.drop_replicate, bytesD_len]
 congr 2
 omega
theorem room_ok {n : Nat} (h : n ≤ 1000000) : (decide (n * 1 ≤ room) && decide (n ≤ strMax)) = true := by
 rw [decide_eq_true (show n * 1 ≤ room by unfold room; omega), decide_eq_true (show n ≤ strMax by unfold strMax; omega)]; rfl
theorem val21 (hN : maxLen < N) {s t vi : Int} {vt : List UInt8} {vm big : Bool} (hs : 1 ≤ s ∧ s ≤ 255) (hz : t ≤ 1 → s = 1 ∨ s = 2 ∨ s = 4) (h0 : 0 ≤ t ∧ t ≤ 3) (hl : vt.length ≤ maxLen) : ∃ nl, G21x0 N s t vi vt vm big = some (nl, (encE s t vi vt vm big).2, (encE s t vi vt vm big).1) := by
 have hm : maxLen = 9223372036854775807 := rfl
 have hr : (((decide (0 ≤ s)) && (decide (s ≤ s))) && (decide (s.toNat * 1 ≤ room) && decide (s.toNat ≤ strMax))) = true := by
  rw [room_ok (by omega), decide_eq_true (show 0 ≤ s by omega), decide_eq_true (Int.le_refl s)]; rfl
 unfold G21x0 F21x0 encE V21x0x46 F21x0x46 V21x0x64 F21x0x64
 cases c1 : (bif t == 1 then true else t == 0) with
 | true =>
  have ht : Sz s := hz (by cases c2 : t == 1 <;> rw [c2] at c1 <;> simp at c1 c2 <;> omega)
  have n3 : (t == 3) = false := by cases c2 : t == 1 <;> rw [c2] at c1 <;> simp at c1 c2 ⊢ <;> omega
  rw [G41x0_eq ht]
  simp only [bnd_eq, Option.isSome_some, getD_some, _root_.cond_true, n3, low21 ht, most_wrap ht, in35, nb42 hN ht]
  cases vm with
  | true =>
   simp only [_root_.cond_true]
   cases (bif vi != 0 then true else !(vt == [])) with
   | true => exact ⟨_, rfl⟩
   | false => exact ⟨_, rfl⟩
  | false =>
   simp only [_root_.cond_false]
   cases !(vt == []) with
   | true => exact ⟨_, rfl⟩
   | false =>
    simp only [_root_.cond_false]
    cases !inI vi (leastV s (t == 1)) (missV s (t == 1) - 1) with
    | true => exact ⟨_, rfl⟩
    | false => exact ⟨_, rfl⟩
 | false =>
  have n1 : (t == 1) = false := by cases c2 : t == 1 <;> rw [c2] at c1 <;> simp at c1 ⊢
  obtain ⟨m, hmm⟩ := miss_some (N := N) hs
  rw [n1, hmm]
  simp only [bnd_eq, Option.isSome_some, getD_some, _root_.cond_true, _root_.cond_false, V43_idx]
  cases c2 : t == 2 with
  | true =>
   have n3 : (t == 3) = false := by simp at c2 ⊢; omega
   simp only [n3, _root_.cond_true, _root_.cond_false]
   cases vm with
   | true =>
    simp only [_root_.cond_true, hr]
    cases vi != 0 with
    | true => exact ⟨_, rfl⟩
    | false =>
     cases vt == [] with
     | true => exact ⟨_, rfl⟩
     | false => exact ⟨_, rfl⟩
   | false =>
    simp only [_root_.cond_false]
    cases vi != 0 with
    | true => exact ⟨_, rfl⟩
    | false =>
     simp only [_root_.cond_false]
     cases vt == [] with
     | true => exact ⟨_, rfl⟩
     | false =>
      simp only [_root_.cond_false]
      cases decide (Lib.indexByte vt 0 ≥ 0) with
      | true => exact ⟨_, rfl⟩
      | false =>
       simp only [_root_.cond_false]
       by_cases c4 : (vt.length : Int) > s
       ·rw [decide_eq_true c4]; exact ⟨_, rfl⟩
       ·rw [decide_eq_false c4, hr, pad_eq (by omega) c4]; exact ⟨_, rfl⟩
  | false =>
   have n3 : (t == 3) = true := by
    have c2' : t ≠ 2 := by simpa using c2
    have n1' : t ≠ 1 := by simpa using n1
    have n0' : t ≠ 0 := by rw [n1] at c1; simpa using c1
    simp; omega
   simp only [n3, _root_.cond_true, _root_.cond_false]
   cases vm with
   | true =>
    simp only [_root_.cond_true]
    cases vi != 0 with
    | true => exact ⟨_, rfl⟩
    | false =>
     cases vt == [] with
     | true => exact ⟨_, rfl⟩
     | false => exact ⟨_, rfl⟩
   | false =>
    simp only [_root_.cond_false]
    cases vi != 0 with
    | true => exact ⟨_, rfl⟩
    | false =>
     simp only [_root_.cond_false]
     cases c4 : (vt.length : Int) != s with
     | true => exact ⟨_, rfl⟩
     | false =>
      have c5 : (vt.length : Int) = s := by simpa using c4
      rw [hr, pad_eq (by omega) (by omega), show (s - (vt.length : Int)).toNat = 0 by omega]
      simp only [List.replicate_zero, List.append_nil]
      exact ⟨_, rfl⟩
theorem val25 (hN : maxLen < N) {s t vi : Int} {vt : List UInt8} {vm big : Bool} (hs : 1 ≤ s ∧ s ≤ 255) (hz : t ≤ 1 → s = 1 ∨ s = 2 ∨ s = 4) (h0 : 0 ≤ t ∧ t ≤ 3) (hl : vt.length ≤ maxLen) : ∃ nl, G25x0 N s t vi vt vm big = some (nl, (encE s t vi vt vm big).2, (encE s t vi vt vm big).1) := by
 have hm : maxLen = 9223372036854775807 := rfl
 have hr : (((decide (0 ≤ s)) && (decide (s ≤ s))) && (decide (s.toNat * 1 ≤ room) && decide (s.toNat ≤ strMax))) = true := by
  rw [room_ok (by omega), decide_eq_true (show 0 ≤ s by omega), decide_eq_true (Int.le_refl s)]; rfl
 unfold G25x0 F25x0 encE V25x0x28 F25x0x28
 cases c1 : (bif t == 1 then true else t == 0) with
 | true =>
  have ht : Sz s := hz (by cases c2 : t == 1 <;> rw [c2] at c1 <;> simp at c1 c2 <;> omega)
  have n3 : (t == 3) = false := by cases c2 : t == 1 <;> rw [c2] at c1 <;> simp at c1 c2 ⊢ <;> omega
  have n2 : (t == 2) = false := by cases c2 : t == 1 <;> rw [c2] at c1 <;> simp at c1 c2 ⊢ <;> omega
  rw [G48x0_eq ht]
  simp only [bnd_eq, Option.isSome_some, getD_some, _root_.cond_true, _root_.cond_false, n3, n2, low25 ht, most_wrap ht, out49, nb47 hN ht]
  cases vm with
  | true =>
   simp only [_root_.cond_true]
   cases (bif vi != 0 then true else !(vt == [])) with
   | true => exact ⟨_, rfl⟩
   | false => exact ⟨_, rfl⟩
  | false =>
   simp only [_root_.cond_false]
   cases !(vt == []) with
   | true => exact ⟨_, rfl⟩
   | false =>
    simp only [_root_.cond_false]
    cases !inI vi (leastV s (t == 1)) (missV s (t == 1) - 1) with
    | true => exact ⟨_, rfl⟩
    | false => exact ⟨_, rfl⟩
 | false =>
  have n1 : (t == 1) = false := by cases c2 : t == 1 <;> rw [c2] at c1 <;> simp at c1 ⊢
  simp only [bnd_eq, Option.isSome_some, getD_some, _root_.cond_true, _root_.cond_false, V43_idx]
  cases c2 : t == 2 with
  | true =>
   have n3 : (t == 3) = false := by simp at c2 ⊢; omega
   simp only [n3, _root_.cond_true, _root_.cond_false]
   cases vm with
   | true =>
    simp only [_root_.cond_true, hr]
    cases vi != 0 with
    | true => exact ⟨_, rfl⟩
    | false =>
     cases vt == [] with
     | true => exact ⟨_, rfl⟩
     | false => exact ⟨_, rfl⟩
   | false =>
    simp only [_root_.cond_false]
    cases (bif vi != 0 then true else vt == []) with
    | true => exact ⟨_, rfl⟩
    | false =>
     simp only [_root_.cond_false]
     cases decide (Lib.indexByte vt 0 ≥ 0) with
     | true => exact ⟨_, rfl⟩
     | false =>
      simp only [_root_.cond_false]
      by_cases c4 : (vt.length : Int) > s
      ·rw [decide_eq_true c4]; exact ⟨_, rfl⟩
      ·rw [decide_eq_false c4, wrapI (x := s - (vt.length : Int)) (by omega) (by omega), room_ok (by rw [bytesD_len]; omega), decide_eq_true (show 0 ≤ s - (vt.length : Int) by omega), show Nat.ble vt.length strMax = true from (by rw [Nat.ble_eq]; unfold strMax; omega)]
       exact ⟨_, rfl⟩
  | false =>
   have n3 : (t == 3) = true := by
    have c2' : t ≠ 2 := by simpa using c2
    have n1' : t ≠ 1 := by simpa using n1
    have n0' : t ≠ 0 := by rw [n1] at c1; simpa using c1
    simp; omega
   simp only [n3, _root_.cond_true, _root_.cond_false]
   cases vm with
   | true =>
    simp only [_root_.cond_true]
    cases vi != 0 with
    | true => exact ⟨_, rfl⟩
    | false =>
     cases vt == [] with
     | true => exact ⟨_, rfl⟩
     | false => exact ⟨_, rfl⟩
   | false =>
    simp only [_root_.cond_false]
    cases c5 : vi != 0 with
    | true => exact ⟨_, rfl⟩
    | false =>
     simp only [_root_.cond_false]
     cases c4 : (vt.length : Int) != s with
     | true => exact ⟨_, rfl⟩
     | false =>
      have c5 : (vt.length : Int) = s := by simpa using c4
      rw [show Nat.ble vt.length strMax = true from (by rw [Nat.ble_eq]; unfold strMax; omega)]
      exact ⟨_, rfl⟩
end Go.Proofs.Ytfogaejiehebeaa

namespace Go.Proofs.Ytfogaejiehebeaa
open Go Go.AM
set_option maxRecDepth 100000
set_option maxHeartbeats 4000000
set_option linter.unusedVariables false
variable {N : Nat}
theorem cl68 {b : Bool} {xs : List D} (hb : b = true → xs = []) (h : xs.length ≤ 100000) : ∃ b', Ce.G68x0 N b xs = some (b', xs) ∧ (b' = true → xs = []) := by
 cases b with
 | true => rw [hb rfl]; exact ⟨true, rfl, fun _ => rfl⟩
 | false =>
  have r1 : decide ((0 + xs.length) * 1 ≤ room) = true := decide_eq_true (by unfold room; omega)
  have r2 : decide (0 + xs.length ≤ strMax) = true := decide_eq_true (by unfold strMax; omega)
  unfold Ce.G68x0 Ce.F68x0
  rw [r1, r2]
  simp
theorem clone_ent (hN : maxLen < N) {dn bn : Bool} {ds data : List D} (h1 : dn = true → ds = []) (h2 : bn = true → data = []) (h3 : ds.length ≤ 1) (h4 : data.length ≤ 65025) (h5 : ∀ d ∈ ds, DefT d) (h6 : ∀ d ∈ ds, (d.cell 2).items.length ≤ 255) :
  ∃ n1 ds' n2, Ce.G44x0 N dn ds bn data = some (n1, ds', n2, data) ∧ ds'.map nDef = ds.map nDef := by
 obtain ⟨n2, q2, hn2⟩ := cl68 (N := N) (xs := data) h2 (by omega)
 obtain ⟨k, rfl⟩ := fuel hN 8 (by omega)
 unfold Ce.G44x0 Ce.F44x0
 rw [q2]
 match ds, h1, h3, h5, h6 with
 | [], h1, _, _, _ =>
  cases dn with
  | true => exact ⟨true, [], n2, rfl, rfl⟩
  | false => exact ⟨false, [], n2, by kernel_rfl, rfl⟩
 | [d], h1, _, h5, h6 =>
  have hdn : dn = false := by
   cases dn with
   | false => rfl
   | true => simp at h1
  subst hdn
  obtain ⟨big, g, nl, fs, rfl, _, hnl, hfl, _⟩ := h5 d (by simp)
  have hl : fs.length ≤ 255 := h6 (.a [.b big, .i g, .l nl fs]) (by simp)
  have r1 : decide ((0 + fs.length) * 24 ≤ room) = true := decide_eq_true (by unfold room; omega)
  have r2 : decide (0 + fs.length ≤ strMax) = true := decide_eq_true (by unfold strMax; omega)
  have e12 : ∃ nl', Ce.G44x0x12 (k + 8) 1 0 [D.a [.b big, .i g, .l nl fs]] = some [D.a [.b big, .i g, .l nl' fs]] := by
   cases nl with
   | true =>
    rw [hnl rfl]
    exact ⟨true, by kernel_rfl⟩
   | false =>
    have e131 : Ce.G70x0 (k + 8) false fs = some (.inr false) := by
     unfold Ce.G70x0 Ce.F70x0
     rw [r1, r2]
     simp
    refine ⟨false, ?_⟩
    have e19 : Ce.G44x0x19 (k + 8) 0 [D.a [.b big, .i g, .l false fs]] = some [D.a [.b big, .i g, .l false fs]] := by
     have d2 : ((([D.a [.b big, .i g, .l false fs]] : List D).getD (0 : Int).toNat (.i 0)).cell 2).items = fs := rfl
     have d3 : ((([D.a [.b big, .i g, .l false fs]] : List D).getD (0 : Int).toNat (.i 0)).cell 2).isNil = false := rfl
     unfold Ce.G44x0x19 Ce.F44x0x19
     rw [d2, d3, e131]
     rfl
    have : Ce.G44x0x12 (k + 8) 1 0 [D.a [.b big, .i g, .l false fs]] = bnd (Ce.G44x0x19 (k + 8) 0 [D.a [.b big, .i g, .l false fs]]) fun y0 => bif y0.isSome then some (y0.getD default) else none := by kernel_rfl
    rw [this, e19]
    rfl
  obtain ⟨nl', e12⟩ := e12
  have e7 : Ce.G44x0x7 (k + 8) false [D.a [.b big, .i g, .l nl fs]] = some (.inr false) := by kernel_rfl
  have el : (([D.a [.b big, .i g, .l nl fs]] : List D).length : Int) = 1 := rfl
  rw [e7, el]
  simp only [bnd_eq, Option.isSome_some, getD_some, _root_.cond_true]
  have i7 : inlB (some (Sum.inr false : Sum Unit Bool)) = false := rfl
  rw [i7]
  simp only [_root_.cond_false]
  have i8 : (inrQ (some (Sum.inr false : Sum Unit Bool))).isSome = true := rfl
  rw [i8, e12]
  exact ⟨false, _, n2, rfl, rfl⟩
theorem clone_own (hN : maxLen < N) {dn : Bool} {data : List D} (h4 : data.length ≤ 65025) : ∃ n1, Ce.H44 N dn [] false data = some (n1, [], false) := by
 obtain ⟨k, rfl⟩ := fuel hN 8 (by omega)
 have r1 : decide ((0 + data.length) * 1 ≤ room) = true := decide_eq_true (by unfold room; omega)
 have r2 : decide (0 + data.length ≤ strMax) = true := decide_eq_true (by unfold strMax; omega)
 have e68 : Ce.Hd.G44x0x4 (k + 8) false data = some (.inr false) := by
  unfold Ce.Hd.G44x0x4 Ce.Hd.F44x0x4 Ce.Hd.G68x0 Ce.Hd.F68x0
  rw [r1, r2]
  simp [bnd_eq, inlB, inrQ]
 unfold Ce.H44 Ce.Hd.G44x0 Ce.Hd.F44x0
 rw [e68]
 cases dn with
 | true => exact ⟨true, by kernel_rfl⟩
 | false => exact ⟨false, by kernel_rfl⟩
theorem entT_flags {x : D} (h : EntT x) : ((x.cell 3).isNil = true → dX x = []) ∧ ((x.cell 4).isNil = true → bX x = []) ∧ ∀ d ∈ dX x, DefT d := by
 obtain ⟨kind, slot, off, dn, ds, bn, data, rfl, _, _, _, h1, h2, _, _, h3, _⟩ := h
 exact ⟨h1, h2, h3⟩
theorem dEnt_eqE {x : D} {n1 n2 : Bool} {ds : List D} (h : ds.map nDef = (dX x).map nDef) : EqE x (Ce.dEnt x n1 ds n2 (bX x)) := ⟨rfl, rfl, rfl, h.symm, rfl⟩
theorem ent_clone (hN : maxLen < N) {a : Ab} {x : D} (hx : EntT x) (ha : OkA a) (he : errE a x = 0) : ∃ q, Ce.G44x0 N (x.cell 3).isNil (x.cell 3).items (x.cell 4).isNil (x.cell 4).items = some q ∧ EqE x (Ce.dEnt x q.1 q.2.1 q.2.2.1 q.2.2.2) := by
 obtain ⟨f1, f2, f3⟩ := entT_flags hx
 obtain ⟨o1, _, _, o4, o5⟩ := ent_ok (ha _) he
 have hE := entE_ok he
 have hds : (dX x).length ≤ 1 := by
  by_cases hk : kX x = 1
  ·have := (o4 hk).1; omega
  ·have := (hE.n hk).2; omega
 have hdl : ∀ d ∈ dX x, (d.cell 2).items.length ≤ 255 := by
  intro d hd
  by_cases hk : kX x = 1
  ·obtain ⟨p1, p2⟩ := o4 hk
   match hq : dX x, p1, hd with
   | [d0], _, hd =>
    have : d = d0 := by simpa using hd
    rw [this]
    rw [hq] at p2
    exact p2
  ·have h0 := (hE.n hk).2
   have : dX x = [] := List.length_eq_zero_iff.1 h0
   rw [this] at hd; simp at hd
 obtain ⟨n1, ds', n2, q1, q2⟩ := clone_ent (N := N) hN f1 f2 hds o5 f3 hdl
 exact ⟨_, q1, dEnt_eqE q2⟩
section
variable {es : List D}
theorem take_succ' {w : Int} (h0 : 0 ≤ w) (h : w < es.length) : es.take (w + 1).toNat = es.take w.toNat ++ [es.getD w.toNat (.i 0)] := by
 have hw : (w + 1).toNat = w.toNat + 1 := by omega
 have hlt : w.toNat < es.length := by omega
 rw [hw, List.take_succ_eq_append_getElem hlt, List.getD_eq_getElem?_getD, List.getElem?_eq_getElem hlt, Option.getD_some]
theorem room72 {n : Nat} (h : n ≤ 100000) : (decide (n * 72 ≤ room) && decide (n ≤ strMax)) = true := by
 rw [decide_eq_true (show n * 72 ≤ room by unfold room; omega), decide_eq_true (show n ≤ strMax by unfold strMax; omega)]; rfl
theorem lpC_eq (hN : maxLen < N) (hes : ∀ x ∈ es, EntT x) (hl : es.length ≤ 50000) (he : errsA Ab.start es = 0) : ∀ (m : Nat) (i : Int) (ys : List D), 0 ≤ i → i ≤ es.length → (es.length - i).toNat < m → (ys.length : Int) = i →
  ∃ zs, Ce.lpC N es es.length m i ys = some (ys ++ zs) ∧ All2 EqE (es.drop i.toNat) zs := by
 intro m
 induction m with
 | zero => intro i ys _ _ h; omega
 | succ m ih =>
  intro i ys h0 h1 hm hy
  have hmx : maxLen = 9223372036854775807 := rfl
  unfold Ce.lpC Ce.SC
  by_cases hi : i < es.length
  ·obtain ⟨oa, _, oe⟩ := abN_ok (i := i.toNat) OkA.start OkT.start he (by omega)
   obtain ⟨q, q1, q2⟩ := ent_clone (N := N) hN (hes _ (getD_mem (fs := es) h0 hi)) oa oe
   rw [decide_eq_true hi, inB_of h0 hi, q1, room72 (by omega)]
   simp only [_root_.cond_true, bnd_eq, Option.isSome_some, getD_some, Bool.and_true, wrapI (x := i + 1) (by omega) (by omega)]
   obtain ⟨zs, z1, z2⟩ := ih (i + 1) (ys ++ [Ce.dEnt (es.getD i.toNat (.i 0)) q.1 q.2.1 q.2.2.1 q.2.2.2]) (by omega) (by omega) (by omega) (by simp; omega)
   refine ⟨Ce.dEnt (es.getD i.toNat (.i 0)) q.1 q.2.1 q.2.2.1 q.2.2.2 :: zs, ?_, ?_⟩
   ·rw [z1]; simp
   ·rw [drop_at (.i 0) h0 hi]
    exact ⟨q2, z2⟩
  ·rw [decide_eq_false hi, drop_end hi]
   exact ⟨[], by simp, trivial⟩
theorem lpA_eq (hN : maxLen < N) (hes : ∀ x ∈ es, EntT x) (hl : es.length ≤ 50000) (he : errsA Ab.start es = 0) {k : Int} (hk0 : 0 ≤ k) (hk1 : k < es.length) (hk : kX (es.getD k.toNat (.i 0)) ≠ 1) (hb : bX (es.getD k.toNat (.i 0)) ≠ []) : ∀ (m : Nat) (i : Int) (nl : Bool) (ys : List D), 0 ≤ i → i ≤ k → (es.length - i).toNat < m → (ys.length : Int) = i → (nl = true → ys = []) → All2 EqE (es.take i.toNat) ys →
  ∃ n1 us zs, Ce.lpA N es es.length k m i nl ys = some (k.toNat, us ++ Ce.dEnt (es.getD k.toNat (.i 0)) n1 [] true [] :: zs, false, bX (es.getD k.toNat (.i 0))) ∧ All2 EqE (es.take k.toNat) us ∧ All2 EqE (es.drop (k.toNat + 1)) zs := by
 intro m
 induction m with
 | zero => intro i nl ys _ _ h; omega
 | succ m ih =>
  intro i nl ys h0 h1 hm hy hn ha
  have hmx : maxLen = 9223372036854775807 := rfl
  have hi : i < es.length := by omega
  obtain ⟨oa, _, oe⟩ := abN_ok (i := i.toNat) OkA.start OkT.start he (by omega)
  unfold Ce.lpA
  by_cases hik : i = k
  ·subst hik
   obtain ⟨f1, f2, f3⟩ := entT_flags (hes _ (getD_mem (fs := es) h0 hi))
   have hE := entE_ok oe
   have hd0 : ((es.getD i.toNat (.i 0)).cell 3).items = [] := List.length_eq_zero_iff.1 (hE.n hk).2
   have hbn : ((es.getD i.toNat (.i 0)).cell 4).isNil = false := by
    cases h : ((es.getD i.toNat (.i 0)).cell 4).isNil with
    | false => rfl
    | true => exact absurd (f2 h) hb
   obtain ⟨n1, q1⟩ := clone_own (N := N) hN (dn := ((es.getD i.toNat (.i 0)).cell 3).isNil) (data := bX (es.getD i.toNat (.i 0))) (ent_ok (oa _) oe).2.2.2.2
   have q1' : Ce.H44 N ((es.getD i.toNat (.i 0)).cell 3).isNil [] false ((es.getD i.toNat (.i 0)).cell 4).items = some (n1, [], false) := q1
   have hroom : (bif nl then ys.isEmpty else ((decide ((ys.length + 1) * 72 ≤ room) && decide ((ys.length + 1) ≤ strMax)) && true)) = true := by
    cases nl with
    | true => rw [hn rfl]; rfl
    | false => rw [room72 (by omega)]; rfl
   obtain ⟨zs, z1, z2⟩ := lpC_eq hN hes hl he m (i + 1) (ys ++ [Ce.dEnt (es.getD i.toNat (.i 0)) n1 [] true []]) (by omega) (by omega) (by omega) (by simp; omega)
   unfold Ce.SH
   rw [decide_eq_true hi, decide_eq_true (rfl : i = i), inB_of h0 hi, hd0, hbn, q1']
   simp only [_root_.cond_true, bnd_eq, Option.isSome_some, getD_some, hroom, wrapI (x := i + 1) (by omega) (by omega), z1]
   refine ⟨n1, ys, zs, ?_, ha, ?_⟩
   ·simp only [Option.bind_some, List.append_assoc, List.cons_append, List.nil_append, show ys.length = i.toNat by omega]
   ·rw [show i.toNat + 1 = (i + 1).toNat by omega]; exact z2
  ·obtain ⟨q, q1, q2⟩ := ent_clone (N := N) hN (hes _ (getD_mem (fs := es) h0 hi)) oa oe
   unfold Ce.SA
   rw [decide_eq_true hi, decide_eq_false hik, inB_of h0 hi, q1, room72 (by omega)]
   simp only [_root_.cond_true, _root_.cond_false, bnd_eq, Option.isSome_some, getD_some, wrapI (x := i + 1) (by omega) (by omega)]
   refine ih (i + 1) false _ (by omega) (by omega) (by omega) (by simp; omega) (fun h => by cases h) ?_
   rw [take_succ' h0 hi]
   exact ha.append ⟨q2, trivial⟩
end
end Go.Proofs.Ytfogaejiehebeaa

namespace Go.Proofs.Ytfogaejiehebeaa
open Go Go.AM
set_option maxRecDepth 100000
set_option maxHeartbeats 4000000
set_option linter.unusedVariables false
variable {N : Nat}
def fIx (n : Int) : List Int → Int → Option Int
 | [], _ => none
 | f :: r, w => bif f == n then some w else fIx n r (w + 1)
theorem fIx_ok {n : Int} : ∀ {l : List Int} {w i : Int}, fIx n l w = some i → w ≤ i ∧ i < w + l.length ∧ l.getD (i - w).toNat 0 = n
 | f :: r, w, i, h => by
  unfold fIx at h
  cases hf : f == n with
  | true =>
   rw [hf] at h
   have : w = i := Option.some.inj h
   subst this
   refine ⟨Int.le_refl _, by simp only [List.length_cons]; omega, ?_⟩
   rw [Int.sub_self]
   simpa using hf
  | false =>
   rw [hf] at h
   obtain ⟨h1, h2, h3⟩ := fIx_ok (l := r) (w := w + 1) h
   refine ⟨by omega, by simp only [List.length_cons]; omega, ?_⟩
   rw [show (i - w).toNat = (i - (w + 1)).toNat + 1 by omega]
   exact h3
def wayI : Option Int → Sum Int Unit
 | some i => .inl i
 | none => .inr ()
section
variable {l : List D}
theorem map_drop_at {w : Int} (h0 : 0 ≤ w) (h1 : w < l.length) : (l.map fN).drop w.toNat = fN (l.getD w.toNat (.i 0)) :: (l.map fN).drop (w + 1).toNat := by
 rw [← List.map_drop, ← List.map_drop, drop_at (.i 0) h0 h1]; rfl
theorem G19_eq (hN : maxLen < N) (hl : l.length ≤ 100000) (n : Int) : G19x0 N l n = some ((fIx n (l.map fN) 0).getD (-1)) := by
 have hmx : maxLen = 9223372036854775807 := rfl
 have loop : ∀ (m : Nat) (w : Int), 0 ≤ w → w ≤ l.length → (l.length - w).toNat < m → L19x0x6 N l l.length n m w (fun p => some (Sum.inl p)) (fun p => some (Sum.inr p)) = some (wayI (fIx n ((l.map fN).drop w.toNat) w)) := by
  intro m
  induction m with
  | zero => intro w _ _ h; omega
  | succ m ih =>
   intro w h0 h1 hm
   unfold L19x0x6 S19x0x6
   by_cases hw : w < l.length
   ·rw [decide_eq_true hw, inB_of h0 hw, map_drop_at h0 hw]
    simp only [_root_.cond_true, bnd_eq, V20x0, F20x0, wrapI (x := w + 1) (by omega) (by omega), fIx]
    cases hf : fN (l.getD w.toNat (.i 0)) == n with
    | true => rw [show (((l.getD w.toNat (.i 0)).cell 0).toI == n) = true from hf]; rfl
    | false =>
     rw [show (((l.getD w.toNat (.i 0)).cell 0).toI == n) = false from hf]
     exact ih (w + 1) (by omega) (by omega) (by omega)
   ·rw [decide_eq_false hw, List.drop_eq_nil_of_le (by simp; omega)]; rfl
 have k : G19x0x6 N l l.length n 0 = _ := loop N 0 (by omega) (by omega) (by omega)
 unfold G19x0 F19x0
 rw [k]
 simp only [bnd_eq, List.drop_zero, Int.toNat_zero]
 cases fIx n (l.map fN) 0 <;> rfl
end
theorem fa_rel : ∀ {fs : List D} {t : Bool} {a : Int}, (fldsAt t a fs).length = (flds t fs).length ∧ (fldsAt t a fs).map fN = (flds t fs).map fN ∧ ∀ i : Nat, i < (flds t fs).length → fS ((fldsAt t a fs).getD i (.i 0)) = fS ((flds t fs).getD i (.i 0)) ∧ fT ((fldsAt t a fs).getD i (.i 0)) = fT ((flds t fs).getD i (.i 0)) ∧ (((fldsAt t a fs).getD i (.i 0)).cell 3).toI = a + szL ((flds t fs).take i)
 | [], _, _ => ⟨rfl, rfl, fun i hi => by simp [flds] at hi⟩
 | f :: r, t, a => by
  simp only [fldsAt, flds]
  cases t && isT f with
  | true => exact fa_rel (fs := r) (t := false) (a := a)
  | false =>
   obtain ⟨h1, h2, h3⟩ := fa_rel (fs := r) (t := t) (a := a + fS f)
   refine ⟨by simp only [_root_.cond_false, List.length_cons, h1], by simp only [_root_.cond_false, List.map_cons, h2]; rfl, fun i hi => ?_⟩
   cases i with
   | zero => exact ⟨rfl, rfl, by simp [szL, D.cell, D.toI]⟩
   | succ i =>
    simp only [_root_.cond_false, List.length_cons] at hi
    obtain ⟨g1, g2, g3⟩ := h3 i (by omega)
    refine ⟨g1, g2, ?_⟩
    show (((fldsAt t (a + fS f) r).getD i (.i 0)).cell 3).toI = a + szL (.a [.i (fN f), .i (fS f), .i (fT f)] :: (flds t r).take i)
    rw [g3]
    have : szL (.a [.i (fN f), .i (fS f), .i (fT f)] :: (flds t r).take i) = fS f + szL ((flds t r).take i) := rfl
    omega
def newX (x : D) (at_ s : Int) (b : List D) : D := .a [.i (kX x), .i (sX x), .i (oX x), .l false (dX x), .l false ((bX x).take at_.toNat ++ b ++ (bX x).drop (at_ + s).toNat)]
def restC (es : List D) (k : Int) (x : D) (at_ s ft t vi : Int) (vt : List UInt8) (vm big : Bool) : Int × List D :=
 bif ft != t then (7, []) else
 bif (encE s ft vi vt vm big).1 != 0 then ((encE s ft vi vt vm big).1, []) else
 bif fileE (es.set k.toNat (newX x at_ s (encE s ft vi vt vm big).2)) != 0 then (fileE (es.set k.toNat (newX x at_ s (encE s ft vi vt vm big).2)), []) else (0, es.set k.toNat (newX x at_ s (encE s ft vi vt vm big).2))
def fldX (a : Ab) (x : D) : List D := fldsAt (kX x == 3) 0 (a.fs (sX x).toNat)
def nthF (a : Ab) (x : D) (i : Int) : D := (fldX a x).getD i.toNat (.i 0)
def setC (es : List D) (k n t vi : Int) (vt : List UInt8) (vm : Bool) : Int × List D :=
 bif dataE es k != 0 then (dataE es k, []) else
 match fIx n ((fldX (abN Ab.start es k.toNat) (es.getD k.toNat (.i 0))).map fN) 0 with
 | none => (4, [])
 | some i => restC es k (es.getD k.toNat (.i 0)) ((nthF (abN Ab.start es k.toNat) (es.getD k.toNat (.i 0)) i).cell 3).toI (fS (nthF (abN Ab.start es k.toNat) (es.getD k.toNat (.i 0)) i)) (fT (nthF (abN Ab.start es k.toNat) (es.getD k.toNat (.i 0)) i)) t vi vt vm ((abN Ab.start es k.toNat).bg (sX (es.getD k.toNat (.i 0))).toNat)
theorem EqE.refl' (x : D) : EqE x x := ⟨rfl, rfl, rfl, rfl, rfl⟩
theorem EqE.trans {x y z : D} (h : EqE x y) (g : EqE y z) : EqE x z := ⟨h.k.trans g.k, h.s.trans g.s, h.o.trans g.o, h.d.trans g.d, h.b.trans g.b⟩
theorem all2_refl (xs : List D) : All2 EqE xs xs := by
 induction xs with
 | nil => trivial
 | cons x xs ih => exact ⟨.refl' x, ih⟩
theorem all2_symm : ∀ {xs ys : List D}, All2 EqE xs ys → All2 EqE ys xs
 | [], [], _ => trivial
 | x :: xs, y :: ys, h => ⟨h.1.symm, all2_symm h.2⟩
 | [], _ :: _, h => h.elim
 | _ :: _, [], h => h.elim
theorem all2_trans : ∀ {xs ys zs : List D}, All2 EqE xs ys → All2 EqE ys zs → All2 EqE xs zs
 | [], [], [], _, _ => trivial
 | x :: xs, y :: ys, z :: zs, h, g => ⟨h.1.trans g.1, all2_trans h.2 g.2⟩
 | [], [], _ :: _, _, g => g.elim
 | [], _ :: _, _, h, _ => h.elim
 | _ :: _, [], _, h, _ => h.elim
 | _ :: _, _ :: _, [], _, g => g.elim
theorem EqE.entD {x y : D} (h : EqE x y) (hx : EntD x) : EntD y := by
 refine ⟨?_, by rw [show (y.cell 4).items = (x.cell 4).items from h.b.symm]; exact hx.b, fun d hd => ?_, by rw [show (y.cell 4).items = (x.cell 4).items from h.b.symm]; exact hx.y⟩
 ·have := congrArg List.length h.d
  simp only [List.length_map] at this
  show (dX y).length ≤ _
  rw [← this]; exact hx.d
 ·have hm : nDef d ∈ (dX y).map nDef := List.mem_map.2 ⟨d, hd, rfl⟩
  rw [← h.d] at hm
  obtain ⟨d', hd', e⟩ := List.mem_map.1 hm
  rw [← (nDef_inj e).2.2]
  exact hx.f d' hd'
theorem all2_entD : ∀ {xs ys : List D}, All2 EqE xs ys → (∀ x ∈ xs, EntD x) → ∀ y ∈ ys, EntD y
 | [], [], _, _, y, hy => by simp at hy
 | x :: xs, z :: zs, h, hx, y, hy => by
  rcases List.mem_cons.1 hy with rfl | hy
  ·exact h.1.entD (hx x (by simp))
  ·exact all2_entD h.2 (fun x hx' => hx x (by simp [hx'])) y hy
 | [], _ :: _, h, _, _, _ => h.elim
 | _ :: _, [], h, _, _, _ => h.elim
theorem newX_ok {x : D} (hx : EntD x) {at_ s : Int} {b : List D} (h0 : 0 ≤ at_) (h1 : at_ + s ≤ (bX x).length) (hs : 0 ≤ s) (hb : BytesOk b) (hl : (b.length : Int) = s) : EntD (newX x at_ s b) := by
 have hlen : ((bX x).take at_.toNat ++ b ++ (bX x).drop (at_ + s).toNat).length = (bX x).length := by
  simp only [List.length_append, List.length_take, List.length_drop]; omega
 refine ⟨hx.d, ?_, hx.f, ?_⟩
 ·show ((bX x).take at_.toNat ++ b ++ (bX x).drop (at_ + s).toNat).length ≤ _
  rw [hlen]; exact hx.b
 ·show BytesOk ((bX x).take at_.toNat ++ b ++ (bX x).drop (at_ + s).toNat)
  have hxy : BytesOk (bX x) := hx.y
  exact (BytesOk.append (fun y hy => hxy y (List.mem_of_mem_take hy)) hb).append (fun y hy => hxy y (List.mem_of_mem_drop hy))
theorem set_entD {es : List D} (hes : ∀ x ∈ es, EntD x) {y : D} (hy : EntD y) (n : Nat) : ∀ x ∈ es.set n y, EntD x := by
 intro x hx
 rcases List.mem_or_eq_of_mem_set hx with h | h
 ·exact hes x h
 ·rw [h]; exact hy
theorem set_split {es : List D} {n : Nat} (h : n < es.length) (y : D) : es.set n y = es.take n ++ y :: es.drop (n + 1) := by
 rw [List.set_eq_take_append_cons_drop, if_pos h]
structure At (es : List D) (k : Int) : Prop where
 e : errsA Ab.start es = 0
 l : es.length ≤ 50000
 k0 : 0 ≤ k
 k1 : k < es.length
 d : kX (es.getD k.toNat (.i 0)) ≠ 1
 f : FldsOk ((abN Ab.start es k.toNat).fs (sX (es.getD k.toNat (.i 0))).toNat)
 t : TypOk ((abN Ab.start es k.toNat).fs (sX (es.getD k.toNat (.i 0))).toNat)
 s : szL (flds (kX (es.getD k.toNat (.i 0)) == 3) ((abN Ab.start es k.toNat).fs (sX (es.getD k.toNat (.i 0))).toNat)) ≤ (bX (es.getD k.toNat (.i 0))).length
 x : EntD (es.getD k.toNat (.i 0))
theorem at_of {es : List D} (hes : ∀ x ∈ es, EntD x) {k : Int} (h : dataE es k = 0) : At es k := by
 obtain ⟨z1, z2, z3, z4⟩ := dataE_ok h
 obtain ⟨hl, he⟩ := fileE_ok z1
 obtain ⟨oa, ot, oe⟩ := abN_ok (i := k.toNat) OkA.start OkT.start he (by omega)
 have hx : EntD (es.getD k.toNat (.i 0)) := hes _ (getD_mem (fs := es) z2 z3)
 obtain ⟨e1, e2, e3, e4, e5, e6⟩ := data_ok oa ot oe hx z4
 exact ⟨he, hl, z2, z3, z4, e1, e2, e3, hx⟩
structure FldAt (es : List D) (k i : Int) : Prop where
 i0 : 0 ≤ i
 i1 : i < (fldX (abN Ab.start es k.toNat) (es.getD k.toNat (.i 0))).length
 a0 : 0 ≤ ((nthF (abN Ab.start es k.toNat) (es.getD k.toNat (.i 0)) i).cell 3).toI
 a1 : ((nthF (abN Ab.start es k.toNat) (es.getD k.toNat (.i 0)) i).cell 3).toI + fS (nthF (abN Ab.start es k.toNat) (es.getD k.toNat (.i 0)) i) ≤ (bX (es.getD k.toNat (.i 0))).length
 s : 1 ≤ fS (nthF (abN Ab.start es k.toNat) (es.getD k.toNat (.i 0)) i) ∧ fS (nthF (abN Ab.start es k.toNat) (es.getD k.toNat (.i 0)) i) ≤ 255
 t : 0 ≤ fT (nthF (abN Ab.start es k.toNat) (es.getD k.toNat (.i 0)) i) ∧ fT (nthF (abN Ab.start es k.toNat) (es.getD k.toNat (.i 0)) i) ≤ 3
 z : fT (nthF (abN Ab.start es k.toNat) (es.getD k.toNat (.i 0)) i) ≤ 1 → fS (nthF (abN Ab.start es k.toNat) (es.getD k.toNat (.i 0)) i) = 1 ∨ fS (nthF (abN Ab.start es k.toNat) (es.getD k.toNat (.i 0)) i) = 2 ∨ fS (nthF (abN Ab.start es k.toNat) (es.getD k.toNat (.i 0)) i) = 4
theorem fldAt_of {es : List D} {k i : Int} (h : At es k) (h0 : 0 ≤ i) (h1 : i < (fldX (abN Ab.start es k.toNat) (es.getD k.toNat (.i 0))).length) : FldAt es k i := by
 obtain ⟨a1, a2⟩ := fldsAt_ok (t := kX (es.getD k.toNat (.i 0)) == 3) (a := 0) (n := (bX (es.getD k.toNat (.i 0))).length) h.t (by omega) (by have := h.s; omega)
 obtain ⟨b1, b2⟩ := atOk_get (i := i.toNat) a1 (by unfold fldX at h1; omega)
 obtain ⟨c1, c2, c3, c4, c5⟩ := a2 _ (getD_mem (fs := fldX (abN Ab.start es k.toNat) (es.getD k.toNat (.i 0))) h0 h1)
 exact ⟨h0, h1, b1, b2, ⟨c3, c4⟩, ⟨c1, c2⟩, c5⟩
end Go.Proofs.Ytfogaejiehebeaa

namespace Go.Proofs.Ytfogaejiehebeaa
open Go Go.AM
set_option maxRecDepth 100000
set_option maxHeartbeats 4000000
set_option linter.unusedVariables false
variable {N : Nat}
theorem q14_3 : Ce.q14 = 3 := by kernel_rfl
theorem fld_len {a : Ab} {x : D} (h : FldsOk (a.fs (sX x).toNat)) : (fldX a x).length ≤ 255 := by
 have := fldsAt_len (fs := a.fs (sX x).toNat) (t := kX x == 3) (a := 0)
 have := h.len
 unfold fldX
 omega
theorem set_prog (hN : maxLen < N) {es : List D} (hes : ∀ x ∈ es, EntT x) (k n t vi : Int) {vt : List UInt8} (vm : Bool) (hl : vt.length ≤ maxLen) :
  ∃ nl out, setG N es k n t vi vt vm = some (nl, out, (setC es k n t vi vt vm).1) ∧ All2 EqE (setC es k n t vi vt vm).2 out := by
 have hmx : maxLen = 9223372036854775807 := rfl
 have hed : ∀ x ∈ es, EntD x := fun x hx => (hes x hx).entD
 obtain ⟨tu, h1, h2, h3⟩ := data13 (N := N) hN hed k
 unfold setG F7s setC
 rw [h1]
 simp only [bnd_eq, Option.isSome_some, _root_.cond_true, getD_some, h2]
 cases hd : dataE es k != 0 with
 | true => exact ⟨_, _, rfl, trivial⟩
 | false =>
  have hz : dataE es k = 0 := by simpa using hd
  have A := at_of hed hz
  obtain ⟨g1, g2, g3⟩ := h3 hz
  have hx : EntT (es.getD k.toNat (.i 0)) := hes _ (getD_mem (fs := es) A.k0 A.k1)
  obtain ⟨a, ha⟩ : ∃ a, abN Ab.start es k.toNat = a := ⟨_, rfl⟩
  obtain ⟨x, hxx⟩ : ∃ x, es.getD k.toNat (.i 0) = x := ⟨_, rfl⟩
  have FA : ∀ i : Int, 0 ≤ i → i < (fldX a x).length → FldAt es k i := fun i p q => fldAt_of A p (by rw [ha, hxx]; exact q)
  have Af := A.f
  have At' := A.t
  rw [ha, hxx] at Af At' g1 g2 g3
  obtain ⟨nlf, e18⟩ := G18x0_eq (N := N) hN Af At' (kX x == 3)
  have e18' : G18x0 N tu.2.2.2.2.1 tu.2.2.2.2.2.2.1 ((x.cell 0).toI == 3) = some (nlf, fldX a x) := by rw [g2, g3]; exact e18
  have e19 := G19_eq (N := N) hN (show (fldX a x).length ≤ 100000 by have := fld_len Af; omega) n
  simp only [inB_of A.k0 A.k1, hxx, ha, e18', _root_.cond_true, _root_.cond_false, Option.isSome_some, getD_some, e19]
  cases hi : fIx n ((fldX a x).map fN) 0 with
  | none => exact ⟨_, _, rfl, trivial⟩
  | some i =>
   obtain ⟨i0, i1, _⟩ := fIx_ok hi
   rw [List.length_map] at i1
   have F := FA i i0 (by omega)
   have hF : nthF a x i = (fldX a x).getD i.toNat (.i 0) := rfl
   simp only [getD_some, decide_eq_false (show ¬ i < 0 by omega), inB_of i0 (show i < (fldX a x).length by omega), ← hF, _root_.cond_true, _root_.cond_false]
   unfold restC
   have hF2 : ((nthF a x i).cell 2).toI = fT (nthF a x i) := rfl
   have hF1 : ((nthF a x i).cell 1).toI = fS (nthF a x i) := rfl
   rw [hF2, hF1]
   have F0 := F.a0
   have F1 := F.a1
   have Fs := F.s
   have Ft := F.t
   have Fz := F.z
   rw [ha, hxx] at F0 F1 Fs Ft Fz
   cases ht : fT (nthF a x i) != t with
   | true => exact ⟨_, _, rfl, trivial⟩
   | false =>
    obtain ⟨nlv, e21⟩ := val21 (N := N) (vi := vi) (vt := vt) (vm := vm) (big := tu.2.1) hN Fs Fz Ft hl
    rw [g1] at e21
    simp only [_root_.cond_false, g1, e21, Option.isSome_some, getD_some, _root_.cond_true]
    obtain ⟨e, he⟩ : ∃ e, encE (fS (nthF a x i)) (fT (nthF a x i)) vi vt vm (a.bg (sX x).toNat) = e := ⟨_, rfl⟩
    simp only [he]
    cases hc : e.1 != 0 with
    | true => exact ⟨_, _, rfl, trivial⟩
    | false =>
     simp only [_root_.cond_false]
     have he0 : e.1 = 0 := by simpa using hc
     obtain ⟨el, eb⟩ := encE_ok (vi := vi) (vt := vt) (vm := vm) (big := a.bg (sX x).toNat) Fs Fz Ft (by rw [he]; exact he0)
     rw [he] at el eb
     have hb : bX x ≠ [] := by
      intro h
      rw [h] at F1
      simp at F1
      omega
     obtain ⟨n1, us, zs, l1, l2, l3⟩ := lpA_eq (N := N) hN hes A.l A.e A.k0 A.k1 A.d (by rw [hxx]; exact hb) N 0 true [] (by omega) A.k0 (by have := A.l; omega) (by simp) (fun _ => rfl) (by rw [show (0 : Int).toNat = 0 from rfl, List.take_zero]; trivial)
     rw [hxx] at l1
     have l1' := l1
     have hul := All2.length l2
     rw [List.length_take] at hul
     have hzl := All2.length l3
     rw [List.length_drop] at hzl
     have hus : us.length = k.toNat := by have := A.k1; have := A.k0; omega
     have ho : Ce.off14 (fldX a x) i = ((nthF a x i).cell 3).toI := by unfold Ce.off14; rw [q14_3]; rfl
     have hc43 : Ce.c43 k (fldX a x) i k.toNat (us ++ Ce.dEnt x n1 [] true [] :: zs) false (bX x) = true := by
      unfold Ce.c43
      rw [ho, decide_eq_true (show k = (k.toNat : Int) by have := A.k0; omega), inB_of i0 (by omega), decide_eq_true F0, decide_eq_true (show ((nthF a x i).cell 3).toI.toNat < (bX x).length by omega), decide_eq_true (show k.toNat < (us ++ Ce.dEnt x n1 [] true [] :: zs).length by simp only [List.length_append, List.length_cons]; omega)]
      rfl
     simp only [l1, _root_.cond_true, Option.isSome_some, getD_some, hc43]
     have hbs : Ce.bs' (fldX a x) i e.2 (bX x) = (bX x).take ((nthF a x i).cell 3).toI.toNat ++ e.2 ++ (bX x).drop (((nthF a x i).cell 3).toI + fS (nthF a x i)).toNat := by
      unfold Ce.bs'
      rw [ho, List.take_of_length_le (show e.2.length ≤ (bX x).length - ((nthF a x i).cell 3).toI.toNat by omega), show ((nthF a x i).cell 3).toI.toNat + e.2.length = (((nthF a x i).cell 3).toI + fS (nthF a x i)).toNat by omega]
     have hxs : Ce.xs' (fldX a x) i e.2 k.toNat (us ++ Ce.dEnt x n1 [] true [] :: zs) (bX x) = us ++ (Ce.dEnt x n1 [] true []).put 4 (.l false (Ce.bs' (fldX a x) i e.2 (bX x))) :: zs := by
      unfold Ce.xs'
      rw [← hus, List.getD_eq_getElem?_getD, List.getElem?_append_right (Nat.le_refl _), Nat.sub_self, List.getElem?_cons_zero, Option.getD_some, List.set_append_right _ _ (Nat.le_refl _), Nat.sub_self]
      rfl
     have hdx : dX x = [] := by
      have hE := entE_ok (abN_ok (i := k.toNat) OkA.start OkT.start A.e (by have := A.k1; have := A.k0; omega)).2.2
      have := (hE.n (by have := A.d; exact this)).2
      rw [hxx] at this
      exact List.length_eq_zero_iff.1 this
     have hq : EqE (newX x ((nthF a x i).cell 3).toI (fS (nthF a x i)) e.2) ((Ce.dEnt x n1 [] true []).put 4 (.l false (Ce.bs' (fldX a x) i e.2 (bX x)))) := by
      refine ⟨rfl, rfl, rfl, ?_, ?_⟩
      ·show (dX x).map nDef = ([] : List D).map nDef
       rw [hdx]
      ·show (bX x).take ((nthF a x i).cell 3).toI.toNat ++ e.2 ++ (bX x).drop (((nthF a x i).cell 3).toI + fS (nthF a x i)).toNat = Ce.bs' (fldX a x) i e.2 (bX x)
       rw [hbs]
     have hall : All2 EqE (es.set k.toNat (newX x ((nthF a x i).cell 3).toI (fS (nthF a x i)) e.2)) (Ce.xs' (fldX a x) i e.2 k.toNat (us ++ Ce.dEnt x n1 [] true [] :: zs) (bX x)) := by
      rw [hxs, set_split (by have := A.k1; have := A.k0; omega)]
      exact l2.append ⟨hq, l3⟩
     have hnx : EntD (newX x ((nthF a x i).cell 3).toI (fS (nthF a x i)) e.2) := newX_ok (by rw [← hxx]; exact A.x) F0 F1 (by omega) eb el
     have hsd := set_entD hed hnx k.toNat
     have hcf := (check_fileA (N := N) hN (all2_entD hall hsd)).1
     rw [← All2.fileE hall] at hcf
     simp only [hcf, _root_.cond_true, Option.isSome_some, getD_some]
     cases hfe : fileE (es.set k.toNat (newX x ((nthF a x i).cell 3).toI (fS (nthF a x i)) e.2)) != 0 with
     | true => exact ⟨_, _, rfl, trivial⟩
     | false => exact ⟨_, _, rfl, hall⟩
end Go.Proofs.Ytfogaejiehebeaa

namespace Go.Proofs.Ytfogaejiehebeaa
open Go Go.AM
set_option maxRecDepth 100000
set_option maxHeartbeats 4000000
set_option linter.unusedVariables false
variable {N : Nat}
theorem szL_take {l : List D} {w : Int} (h0 : 0 ≤ w) (h1 : w < l.length) : szL (l.take (w + 1).toNat) = szL (l.take w.toNat) + fS (l.getD w.toNat (.i 0)) := by
 have hap : ∀ (xs : List D) (y : D), szL (xs ++ [y]) = szL xs + fS y := by
  intro xs y
  induction xs with
  | nil => simp [szL]
  | cons z zs ih => simp only [List.cons_append, szL, ih]; omega
 have hw : (w + 1).toNat = w.toNat + 1 := by omega
 have hlt : w.toNat < l.length := by omega
 rw [hw, List.take_succ_eq_append_getElem hlt, hap, List.getD_eq_getElem?_getD, List.getElem?_eq_getElem hlt, Option.getD_some]
theorem szL_take_le {l : List D} (h : ∀ f ∈ l, 0 ≤ fS f ∧ fS f ≤ 255) : ∀ (n : Nat), 0 ≤ szL (l.take n) ∧ szL (l.take n) ≤ 255 * l.length := by
 intro n
 obtain ⟨h1, h2⟩ := szL_bound (fs := l.take n) (fun f hf => h f (List.mem_of_mem_take hf))
 refine ⟨h1, Int.le_trans h2 ?_⟩
 have : (l.take n).length ≤ l.length := by rw [List.length_take]; omega
 omega
theorem set_ref (hN : maxLen < N) {es : List D} (hes : ∀ x ∈ es, EntT x) (k n t vi : Int) {vt : List UInt8} (vm : Bool) (hl : vt.length ≤ maxLen) :
  ∃ nl out, G8x0 N es k n t vi vt vm = some (nl, out, (setC es k n t vi vt vm).1) ∧ All2 EqE (setC es k n t vi vt vm).2 out := by
 have hmx : maxLen = 9223372036854775807 := rfl
 have hed : ∀ x ∈ es, EntD x := fun x hx => (hes x hx).entD
 unfold G8x0 F8x0 setC
 rw [data15 hN hed]
 simp only [bnd_eq, Option.isSome_some, _root_.cond_true, getD_some]
 cases hd : dataE es k != 0 with
 | true => exact ⟨_, _, rfl, trivial⟩
 | false =>
  have hz : dataE es k = 0 := by simpa using hd
  have A := at_of hed hz
  obtain ⟨z1, _, _, _⟩ := dataE_ok hz
  have hx : EntT (es.getD k.toNat (.i 0)) := hes _ (getD_mem (fs := es) A.k0 A.k1)
  obtain ⟨b, b1, ds, p1, p2⟩ := places_ref (N := N) hN hed z1
  obtain ⟨nlf, hdf⟩ := (pl_at (i := k.toNat) p2 (by have := A.k0; have := A.k1; omega)).2 A.d
  have hlen := p2.len
  obtain ⟨a, ha⟩ : ∃ a, abN Ab.start es k.toNat = a := ⟨_, rfl⟩
  obtain ⟨x, hxx⟩ : ∃ x, es.getD k.toNat (.i 0) = x := ⟨_, rfl⟩
  have FA : ∀ i : Int, 0 ≤ i → i < (fldX a x).length → FldAt es k i := fun i p q => fldAt_of A p (by rw [ha, hxx]; exact q)
  have Af := A.f
  rw [ha, hxx] at Af hdf
  obtain ⟨nl24, e24⟩ := G24x0_eq (N := N) hN Af (kX x == 3)
  have e24' : G24x0 N (a.fs (sX x).toNat) ((x.cell 0).toI == 3) = some (nl24, flds (kX x == 3) (a.fs (sX x).toNat)) := e24
  obtain ⟨r1, r2, r3⟩ := fa_rel (fs := a.fs (sX x).toNat) (t := kX x == 3) (a := 0)
  obtain ⟨lB, hB⟩ : ∃ lB, flds (kX x == 3) (a.fs (sX x).toNat) = lB := ⟨_, rfl⟩
  have hBok := (Af.flds (kX x == 3))
  rw [hB] at r1 r2 r3 e24' hBok
  have hA : fldsAt (kX x == 3) 0 (a.fs (sX x).toNat) = fldX a x := rfl
  rw [hA] at r1 r2 r3
  have hBl := hBok.len
  -- the loop
  have loop : ∀ (m : Nat) (w : Int), 0 ≤ w → w ≤ lB.length → (lB.length - w).toNat < m → ∃ r, L8x0x24 N k lB lB.length es n t vi vt vm (a.bg (sX x).toNat) (kX x) (sX x) (oX x) (x.cell 3).isNil (dX x) (bX x) m (szL (lB.take w.toNat)) w (fun p => some (Sum.inl p)) (fun p => some (Sum.inr p)) = some r ∧
    (match fIx n ((lB.map fN).drop w.toNat) w with
     | none => r = .inr ()
     | some i => ∃ nl out, r = .inl ((restC es k x ((nthF a x i).cell 3).toI (fS (nthF a x i)) (fT (nthF a x i)) t vi vt vm (a.bg (sX x).toNat)).1, nl, out) ∧ All2 EqE (restC es k x ((nthF a x i).cell 3).toI (fS (nthF a x i)) (fT (nthF a x i)) t vi vt vm (a.bg (sX x).toNat)).2 out) := by
   intro m
   induction m with
   | zero => intro w _ _ h; omega
   | succ m ih =>
    intro w h0 h1 hm
    unfold L8x0x24 S8x0x24
    by_cases hw : w < lB.length
    ·have hbd := szL_take_le hBok.size w.toNat
     have hbd1 := szL_take_le hBok.size (w + 1).toNat
     have hst := szL_take h0 hw
     simp only [decide_eq_true hw, inB_of h0 hw, map_drop_at h0 hw, _root_.cond_true, bnd_eq, wrapI (x := w + 1) (by omega) (by omega), fIx]
     cases hf : fN (lB.getD w.toNat (.i 0)) == n with
     | false =>
      have hf' : (((lB.getD w.toNat (.i 0)).cell 0).toI != n) = true := by
       have : (((lB.getD w.toNat (.i 0)).cell 0).toI == n) = false := hf
       simp only [bne, this, Bool.not_false]
      have hat : IntKind.wrap .i64 (szL (lB.take w.toNat) + ((lB.getD w.toNat (.i 0)).cell 1).toI) = szL (lB.take (w + 1).toNat) := by
       rw [show ((lB.getD w.toNat (.i 0)).cell 1).toI = fS (lB.getD w.toNat (.i 0)) from rfl, ← hst, wrapI (by omega) (by omega)]
      simp only [hf', _root_.cond_true, _root_.cond_false, hat]
      exact ih (w + 1) (by omega) (by omega) (by omega)
     | true =>
      have hf' : (((lB.getD w.toNat (.i 0)).cell 0).toI != n) = false := by
       have : (((lB.getD w.toNat (.i 0)).cell 0).toI == n) = true := hf
       simp only [bne, this, Bool.not_true]
      obtain ⟨q1, q2, q3⟩ := r3 w.toNat (by omega)
      have F := FA w h0 (by omega)
      have F0 := F.a0
      have F1 := F.a1
      have Fs := F.s
      have Ft := F.t
      have Fz := F.z
      rw [ha, hxx] at F0 F1 Fs Ft Fz
      have hF : (fldX a x).getD w.toNat (.i 0) = nthF a x w := rfl
      rw [hF] at q1 q2 q3
      have hs1 : ((lB.getD w.toNat (.i 0)).cell 1).toI = fS (nthF a x w) := q1.symm
      have hs2 : ((lB.getD w.toNat (.i 0)).cell 2).toI = fT (nthF a x w) := q2.symm
      have hs3 : szL (lB.take w.toNat) = ((nthF a x w).cell 3).toI := by omega
      simp only [hf', _root_.cond_true, _root_.cond_false, hs1, hs2, hs3]
      unfold restC
      cases ht : fT (nthF a x w) != t with
      | true => exact ⟨_, rfl, _, _, rfl, trivial⟩
      | false =>
       obtain ⟨nlv, e25⟩ := val25 (N := N) (vi := vi) (vt := vt) (vm := vm) (big := a.bg (sX x).toNat) hN Fs Fz Ft hl
       simp only [_root_.cond_false, e25, Option.isSome_some, getD_some, _root_.cond_true]
       obtain ⟨e, he⟩ : ∃ e, encE (fS (nthF a x w)) (fT (nthF a x w)) vi vt vm (a.bg (sX x).toNat) = e := ⟨_, rfl⟩
       simp only [he]
       cases hc : e.1 != 0 with
       | true => exact ⟨_, rfl, _, _, rfl, trivial⟩
       | false =>
        have he0 : e.1 = 0 := by simpa using hc
        obtain ⟨el, eb⟩ := encE_ok (vi := vi) (vt := vt) (vm := vm) (big := a.bg (sX x).toNat) Fs Fz Ft (by rw [he]; exact he0)
        rw [he] at el eb
        have hxl : (bX x).length ≤ maxLen := by have := A.x.b; rw [hxx] at this; exact this
        have hxo : (bX x).length ≤ 65025 := by
         obtain ⟨oa, _, oe⟩ := abN_ok (i := k.toNat) OkA.start OkT.start A.e (by have := A.k1; have := A.k0; omega)
         have := (ent_ok (oa _) oe).2.2.2.2
         rw [hxx] at this; exact this
        have t1 : (((bX x).take ((nthF a x w).cell 3).toI.toNat).drop 0).length = ((nthF a x w).cell 3).toI.toNat := by simp; omega
        have t2 : ((bX x).take ((bX x).length : Int).toNat).drop (((nthF a x w).cell 3).toI + fS (nthF a x w)).toNat = (bX x).drop (((nthF a x w).cell 3).toI + fS (nthF a x w)).toNat := by rw [Int.toNat_natCast, List.take_length]
        have t3 : ((bX x).drop (((nthF a x w).cell 3).toI + fS (nthF a x w)).toNat).length = (bX x).length - (((nthF a x w).cell 3).toI + fS (nthF a x w)).toNat := List.length_drop
        have w1 : IntKind.wrap .i64 (((nthF a x w).cell 3).toI + fS (nthF a x w)) = ((nthF a x w).cell 3).toI + fS (nthF a x w) := wrapI (by omega) (by omega)
        have c1 : ((decide (0 ≤ ((nthF a x w).cell 3).toI)) && (decide (((nthF a x w).cell 3).toI ≤ ((bX x).length : Int)))) = true := by
         rw [decide_eq_true F0, decide_eq_true (show ((nthF a x w).cell 3).toI ≤ ((bX x).length : Int) by omega)]; rfl
        have c2 : (((decide (0 ≤ ((nthF a x w).cell 3).toI + fS (nthF a x w))) && (decide (((nthF a x w).cell 3).toI + fS (nthF a x w) ≤ ((bX x).length : Int)))) && (decide (((bX x).length : Int) ≤ ((bX x).length : Int)))) = true := by
         rw [decide_eq_true (show 0 ≤ ((nthF a x w).cell 3).toI + fS (nthF a x w) by omega), decide_eq_true F1, decide_eq_true (Int.le_refl _)]; rfl
        have m1 : (decide ((0 + (((bX x).take ((nthF a x w).cell 3).toI.toNat).drop 0).length) * 1 ≤ room) && decide ((0 + (((bX x).take ((nthF a x w).cell 3).toI.toNat).drop 0).length) ≤ strMax)) = true := room_ok (by omega)
        have m2 : (decide (((((bX x).take ((nthF a x w).cell 3).toI.toNat).drop 0).length + e.2.length) * 1 ≤ room) && decide (((((bX x).take ((nthF a x w).cell 3).toI.toNat).drop 0).length + e.2.length) ≤ strMax)) = true := room_ok (by omega)
        have m3 : (decide (((((bX x).take ((nthF a x w).cell 3).toI.toNat).drop 0 ++ e.2).length + ((bX x).drop (((nthF a x w).cell 3).toI + fS (nthF a x w)).toNat).length) * 1 ≤ room) && decide (((((bX x).take ((nthF a x w).cell 3).toI.toNat).drop 0 ++ e.2).length + ((bX x).drop (((nthF a x w).cell 3).toI + fS (nthF a x w)).toNat).length) ≤ strMax)) = true := room_ok (by rw [List.length_append]; omega)
        simp only [_root_.cond_false, c1, m1, m2, w1, c2, t2, m3, _root_.cond_true]
        generalize hnl : (((bX x).drop (((nthF a x w).cell 3).toI + fS (nthF a x w)).toNat).isEmpty && (e.2.isEmpty && ((((bX x).take ((nthF a x w).cell 3).toI.toNat).drop 0).isEmpty && false))) = nly
        have hq : EqE (newX x ((nthF a x w).cell 3).toI (fS (nthF a x w)) e.2) (.a [(.i (kX x)), (.i (sX x)), (.i (oX x)), (.l (x.cell 3).isNil (dX x)), (.l nly ((bX x).take ((nthF a x w).cell 3).toI.toNat |>.drop 0 |> (· ++ e.2) |> (· ++ (bX x).drop (((nthF a x w).cell 3).toI + fS (nthF a x w)).toNat)))]) := by
         refine ⟨rfl, rfl, rfl, rfl, ?_⟩
         show _ = ((bX x).take ((nthF a x w).cell 3).toI.toNat).drop 0 ++ e.2 ++ (bX x).drop (((nthF a x w).cell 3).toI + fS (nthF a x w)).toNat
         rw [List.drop_zero]
         rfl
        have r72 : (decide ((0 + es.length) * 72 ≤ room) && decide ((0 + es.length) ≤ strMax)) = true := room72 (by have := A.l; omega)
        have e26 : ∃ b26, G26x0 N es k (kX x) (sX x) (oX x) (x.cell 3).isNil (dX x) nly (((bX x).take ((nthF a x w).cell 3).toI.toNat).drop 0 ++ e.2 ++ (bX x).drop (((nthF a x w).cell 3).toI + fS (nthF a x w)).toNat) = some (b26, es.set k.toNat (.a [(.i (kX x)), (.i (sX x)), (.i (oX x)), (.l (x.cell 3).isNil (dX x)), (.l nly (((bX x).take ((nthF a x w).cell 3).toI.toNat).drop 0 ++ e.2 ++ (bX x).drop (((nthF a x w).cell 3).toI + fS (nthF a x w)).toNat))])) := by
         unfold G26x0 F26x0
         rw [r72, inB_of A.k0 A.k1, decide_eq_true (show k.toNat < es.length by have := A.k0; have := A.k1; omega)]
         exact ⟨_, rfl⟩
        obtain ⟨b26, e26⟩ := e26
        have hall : All2 EqE (es.set k.toNat (newX x ((nthF a x w).cell 3).toI (fS (nthF a x w)) e.2)) (es.set k.toNat (.a [(.i (kX x)), (.i (sX x)), (.i (oX x)), (.l (x.cell 3).isNil (dX x)), (.l nly (((bX x).take ((nthF a x w).cell 3).toI.toNat).drop 0 ++ e.2 ++ (bX x).drop (((nthF a x w).cell 3).toI + fS (nthF a x w)).toNat))])) := by
         rw [set_split (by have := A.k1; have := A.k0; omega), set_split (by have := A.k1; have := A.k0; omega)]
         exact (all2_refl _).append ⟨hq, all2_refl _⟩
        have hnx : EntD (newX x ((nthF a x w).cell 3).toI (fS (nthF a x w)) e.2) := newX_ok (by rw [← hxx]; exact A.x) F0 F1 (by omega) eb el
        have hsd := set_entD hed hnx k.toNat
        have hcf := (check_fileA (N := N) hN (all2_entD hall hsd)).2
        rw [← All2.fileE hall] at hcf
        simp only [e26, hcf, Option.isSome_some, getD_some, _root_.cond_true]
        cases hfe : fileE (es.set k.toNat (newX x ((nthF a x w).cell 3).toI (fS (nthF a x w)) e.2)) != 0 with
        | true => exact ⟨_, rfl, _, _, rfl, trivial⟩
        | false => exact ⟨_, rfl, _, _, rfl, hall⟩
    ·have : w = lB.length := by omega
     have hdr : (lB.map fN).drop w.toNat = [] := List.drop_eq_nil_of_le (by rw [List.length_map]; omega)
     rw [decide_eq_false hw, hdr]
     exact ⟨_, rfl, rfl⟩
  obtain ⟨r, l1, l2⟩ := loop N 0 (by omega) (by omega) (by omega)
  have l1' : G8x0x24 N k lB (lB.length : Int) es n t vi vt vm (a.bg (sX x).toNat) (x.cell 0).toI (x.cell 1).toI (x.cell 2).toI (x.cell 3).isNil (x.cell 3).items (x.cell 4).items 0 0 = some r := l1
  have d2 : (([D.a [.b (a.bg (sX x).toNat), .i (a.gl (sX x).toNat), .l nlf (a.fs (sX x).toNat)]] : List D).getD 0 (.i 0)) = D.a [.b (a.bg (sX x).toNat), .i (a.gl (sX x).toNat), .l nlf (a.fs (sX x).toNat)] := rfl
  have d3 : ((D.a [.b (a.bg (sX x).toNat), .i (a.gl (sX x).toNat), .l nlf (a.fs (sX x).toNat)]).cell 2).items = a.fs (sX x).toNat := rfl
  have d4 : ((D.a [.b (a.bg (sX x).toNat), .i (a.gl (sX x).toNat), .l nlf (a.fs (sX x).toNat)]).cell 0).toB = a.bg (sX x).toNat := rfl
  simp only [p1, Option.isSome_some, getD_some, _root_.cond_true, _root_.cond_false, inB_of A.k0 (show k < ds.length by have := A.k1; omega), hdf, inB_of (show (0 : Int) ≤ 0 by omega) (show (0 : Int) < ([D.a [.b (a.bg (sX x).toNat), .i (a.gl (sX x).toNat), .l nlf (a.fs (sX x).toNat)]] : List D).length by simp), inB_of A.k0 A.k1, hxx, ha, d2, d3, d4, e24', l1']
  rw [show (0 : Int).toNat = 0 from rfl, List.drop_zero, ← r2] at l2
  cases hi : fIx n ((fldX a x).map fN) 0 with
  | none =>
   rw [hi] at l2
   subst l2
   exact ⟨_, _, rfl, trivial⟩
  | some i =>
   rw [hi] at l2
   obtain ⟨nl, out, rfl, o2⟩ := l2
   exact ⟨_, _, rfl, o2⟩
end Go.Proofs.Ytfogaejiehebeaa

namespace Go.Proofs.Ytfogaejiehebeaa
open Go Go.AM
set_option maxRecDepth 100000
set_option maxHeartbeats 4000000
set_option linter.unusedVariables false
section
variable {N : Nat}
theorem told_ok : G11x0 18446744073709551616 = some true := by kernel_rfl
theorem G9_refl {xs : List D} (hN : maxLen < N) (hl : xs.length ≤ maxLen) : G9x0 N xs xs = some true := by
 have k : G9x0x12 N xs xs xs.length 0 = some (.inr ()) := by
  refine refl_ind (S := fun w kr => S9x0x12 N xs xs xs.length w kr _ _) (L := fun m w => L9x0x12 N xs xs xs.length m w _ _) (fun m w => rfl) hl (fun kr => by simp [S9x0x12]) (fun w kr h1 h2 h3 => ?_) hN
  unfold S9x0x12
  rw [h1, h2]
  simp [bnd_eq]
 unfold G9x0 F9x0
 rw [len_self, k]; rfl
theorem valsL_len {data : List D} {big : Bool} : ∀ {fs : List D} {t : Bool} {a : Int}, (valsL data big t a fs).length ≤ fs.length
 | [], _, _ => Nat.le_refl _
 | f :: r, t, a => by
  simp only [valsL]
  cases t && isT f with
  | true => have := valsL_len (data := data) (big := big) (fs := r) (t := false) (a := a); simp only [_root_.cond_true, List.length_cons]; omega
  | false => have := valsL_len (data := data) (big := big) (fs := r) (t := t) (a := a + fS f); simp only [_root_.cond_false, List.length_cons]; omega
theorem valsR_len {es : List D} (hed : ∀ x ∈ es, EntD x) (k : Int) : (valsR es k).length ≤ 255 := by
 unfold valsR
 cases hd : dataE es k != 0 with
 | true => exact Nat.zero_le _
 | false =>
  have hz : dataE es k = 0 := by simpa using hd
  have A := at_of hed hz
  exact Nat.le_trans valsL_len A.f.len
theorem restC_ent {es : List D} (hed : ∀ x ∈ es, EntD x) (k : Int) (x : D) (at_ s ft t vi : Int) (vt : List UInt8) (vm big : Bool) (hx : (encE s ft vi vt vm big).1 = 0 → EntD (newX x at_ s (encE s ft vi vt vm big).2)) : (∀ y ∈ (restC es k x at_ s ft t vi vt vm big).2, EntD y) ∧ (restC es k x at_ s ft t vi vt vm big).2.length ≤ es.length := by
 unfold restC
 cases ft != t with
 | true => exact ⟨fun y hy => by simp at hy, Nat.zero_le _⟩
 | false =>
  simp only [_root_.cond_false]
  cases he : (encE s ft vi vt vm big).1 != 0 with
  | true => exact ⟨fun y hy => by simp at hy, Nat.zero_le _⟩
  | false =>
   simp only [_root_.cond_false]
   cases fileE (es.set k.toNat (newX x at_ s (encE s ft vi vt vm big).2)) != 0 with
   | true => exact ⟨fun y hy => by simp at hy, Nat.zero_le _⟩
   | false => exact ⟨set_entD hed (hx (by simpa using he)) _, by simp⟩
theorem setC_ent {es : List D} (hed : ∀ x ∈ es, EntD x) (k n t vi : Int) (vt : List UInt8) (vm : Bool) : (∀ y ∈ (setC es k n t vi vt vm).2, EntD y) ∧ (setC es k n t vi vt vm).2.length ≤ es.length := by
 unfold setC
 cases hd : dataE es k != 0 with
 | true => exact ⟨fun y hy => by simp at hy, Nat.zero_le _⟩
 | false =>
  have hz : dataE es k = 0 := by simpa using hd
  have A := at_of hed hz
  simp only [_root_.cond_false]
  cases hi : fIx n ((fldX (abN Ab.start es k.toNat) (es.getD k.toNat (.i 0))).map fN) 0 with
  | none => exact ⟨fun y hy => by simp at hy, Nat.zero_le _⟩
  | some i =>
   obtain ⟨i0, i1, _⟩ := fIx_ok hi
   rw [List.length_map] at i1
   have F := fldAt_of A i0 (by omega)
   refine restC_ent hed k _ _ _ _ t vi vt vm _ fun he => ?_
   obtain ⟨el, eb⟩ := encE_ok (vi := vi) (vt := vt) (vm := vm) F.s F.z F.t he
   have := F.s
   exact newX_ok A.x F.a0 F.a1 (by omega) eb el
end
theorem law3 {es : List D} (hes : ∀ x ∈ es, EntT x) (hl : es.length ≤ maxLen) (k n t vi : Int) {vt : List UInt8} (vm : Bool) (hv : vt.length ≤ maxLen) : G3x0 18446744073709551616 es k n t vi vt vm = some true := by
 have hN : maxLen < 18446744073709551616 := by decide
 have hed : ∀ x ∈ es, EntD x := fun x hx => (hes x hx).entD
 obtain ⟨n5, q5⟩ := vals5 (N := 18446744073709551616) hN hed k
 obtain ⟨n6, q6⟩ := vals6 (N := 18446744073709551616) hN hed k
 obtain ⟨n7, o7, q7, a7⟩ := set_prog (N := 18446744073709551616) hN hes k n t vi vm hv
 obtain ⟨n8, o8, q8, a8⟩ := set_ref (N := 18446744073709551616) hN hes k n t vi vm hv
 obtain ⟨c1, c2⟩ := setC_ent hed k n t vi vt vm
 have hlen := AM.All2.length a7
 have hsame := G28_same (N := 18446744073709551616) hN (all2_trans (all2_symm a7) a8) (all2_entD a7 c1) (by omega)
 have hvr := G9_refl (N := 18446744073709551616) (xs := valsR es k) hN (by have := valsR_len hed k; have : maxLen = 9223372036854775807 := rfl; omega)
 unfold G3x0 F3x0 G3x0x16 F3x0x16
 simp only [bnd_eq, q5, q6, q7, q8, Option.isSome_some, _root_.cond_true, getD_some, hvr, hsame, beq_self_eq_true, told_ok]
theorem kinds26 : kinds Try.prog 26 = [.int .i64, .int .i64, .int .i64, .str, .bool] := by kernel_rfl
theorem arg26 {ds : List D} (h : ArgOk Try.prog 6 26 ds) : ∃ n t vi vt vm, ds = [.i n, .i t, .i vi, .s vt, .b vm] ∧ vt.length ≤ maxLen ∧ In64 n ∧ In64 t ∧ In64 vi := by
 unfold ArgOk at h
 rw [kinds26] at h
 obtain ⟨_, _, rfl, h0, h⟩ := all2_cons h
 obtain ⟨_, _, rfl, h1, h⟩ := all2_cons h
 obtain ⟨_, _, rfl, h2, h⟩ := all2_cons h
 obtain ⟨_, _, rfl, h3, h⟩ := all2_cons h
 obtain ⟨_, _, rfl, h4, h⟩ := all2_cons h
 obtain rfl := all2_nil h
 obtain ⟨n, rfl, w0⟩ := ty_int (m := 5) h0
 obtain ⟨t, rfl, w1⟩ := ty_int (m := 5) h1
 obtain ⟨vi, rfl, w2⟩ := ty_int (m := 5) h2
 obtain ⟨vt, rfl, hv⟩ := ty_str (m := 5) h3
 obtain ⟨vm, rfl⟩ := ty_bool (m := 5) h4
 exact ⟨n, t, vi, vt, vm, rfl, hv, wf64 w0, wf64 w1, wf64 w2⟩
theorem Try.own : ownKnob Try.prog.godebug = none := by kernel_rfl
theorem Try.laidOut : laidOutB Try.prog = true := by kernel_rfl
theorem callLaw3 (dss : List (List D)) (h : All2 (ArgOk Try.prog 6) Try.f3.params.toList dss) : CallOk Try.prog 3 (argVs Try.prog Try.f3.params.toList dss) [] ([.c (.b true)], []) := by
 have hp : Try.f3.params.toList = [24, 3, 26] := by kernel_rfl
 rw [hp] at h ⊢
 match dss, h with
 | [d0, d1, d2], ⟨h0, h1, h2, _⟩ =>
  obtain ⟨nl, es, rfl, hnl, hl, hes⟩ := arg24 h0
  obtain ⟨k, rfl, hk⟩ := arg3 h1
  obtain ⟨n, t, vi, vt, vm, rfl, hv, _, _, _⟩ := arg26 h2
  refine ok3x0 18446744073709551616 _ _ (A3x0 18446744073709551616 [.b nl, .l es, .i k, .i n, .i t, .i vi, .s vt, .b vm]) (by kernel_rfl) _ ?_
  have e : A3x0 18446744073709551616 [.b nl, .l es, .i k, .i n, .i t, .i vi, .s vt, .b vm] = bnd (G3x0 18446744073709551616 es k n t vi vt vm) fun q => [(q.isSome, ([.c (.b (q.getD default))], []))] := by kernel_rfl
  rw [e, law3 hes hl k n t vi vm hv]
  rfl
theorem g0 : Try.prog.globalNamed "internal/bytealg.MaxLen" = some 0 := by kernel_rfl
theorem g1 : Try.prog.globalNamed "internal/strconv.uint64pow10" = none := by kernel_rfl
theorem g2 : Try.prog.globalNamed "strconv.ErrSyntax" = none := by kernel_rfl
theorem g3 : Try.prog.globalNamed "strconv.ErrRange" = none := by kernel_rfl
theorem giW {W : World} (hs : W.ShapedOpen Try.prog) {M : Stab} (hM : ∀ b o, ¬ M b o) : GI Try.prog M W := by
 intro x hx g hg
 refine ⟨hM g, ?_⟩
 simp only [gspecs, List.mem_cons, List.not_mem_nil, or_false] at hx
 rcases hx with rfl | rfl | rfl | rfl
 ·obtain rfl := Option.some.inj (g0.symm.trans hg)
  exact gat_int (t := 3) (zero := #[.int .i64 0]) hs (of_decide_eq_true (by kernel_rfl)) (by kernel_rfl) rfl (by kernel_rfl) (by kernel_rfl) (by kernel_rfl)
 ·rw [g1] at hg; cases hg
 ·rw [g2] at hg; cases hg
 ·rw [g3] at hg; cases hg
theorem lawLifted3 (os : Os) (started : os.Started) (H : Type) (enc : TypeId × Value → H) :
  ReturnsInHanded {} Try.checked os 3 .any (Rows.recordValuesMatchSpecSpec.pre6 enc Try.prog Try.f3 Rows.recordValuesMatchSpecRow.domain false) (Rows.recordValuesMatchSpecSpec.post enc Try.prog Try.f3 false true false false) := by
 refine returnsInHanded_of_change_shaped (C := Try.checked) Try.own started (by kernel_rfl) Try.func3
  (ChangeSpec.witness6 (enc := enc) (C := Try.checked) false ⟨#[], #[.agg #[.slice none 0 0], .int .i64 0, .agg #[.int .i64 0, .int .i64 0, .int .i64 0, .string ⟨#[]⟩, .bool false]], []⟩ 8 (by kernel_rfl) (by kernel_rfl) (by kernel_rfl) (by kernel_rfl)) ?_
 intro W base args ds gs before hval hW _ _ hsh _
 exact law_call (m := 6) (tb := 4) Try.laidOut rfl (by kernel_rfl) (by kernel_rfl) (by kernel_rfl) (fun l hl => by
  rw [show Try.f3.params.size = 3 by kernel_rfl] at hl
  match l, hl with
  | [_, _, _], _ => rfl) callLaw3 (giW hsh) hval hW
theorem values_holds : Rows.RecordValuesMatchSpecSaid :=
 OpenClaim.holds_of_wide 3 Try.f3 rfl rfl rfl rfl rfl rfl rfl ⟨rfl, rfl, rfl, rfl, rfl⟩ rfl rfl rfl rfl rfl (by kernel_rfl) Try.func3 (by kernel_rfl)
  (of_decide_eq_true (by kernel_rfl)) (by unfold Func.isWrapper; first | (rw [if_pos (by decide +kernel)]; kernel_rfl) | (rw [if_neg (by decide +kernel)]; exact ⟨rfl, rfl⟩))
  (fun os started H enc _ => lawLifted3 os started H enc)
end Go.Proofs.Ytfogaejiehebeaa

