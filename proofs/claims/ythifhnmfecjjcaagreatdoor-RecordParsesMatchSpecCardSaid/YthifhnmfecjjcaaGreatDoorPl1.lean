/- A part of a proof of a law: lemmas. Conditions: those of each lemma. -/
import Derived.Test.YthifhnmfecjjcaaGreatDoorTRp2
import Derived.KernelRfl
import Derived.Test.YthifhnmfecjjcaaGreatDoorCards
import Derived.Test.YthifhnmfecjjcaaGreatDoorTie
import Derived.Deep.DeepHandedRow
import Derived.ProofKit
set_option linter.all false
set_option maxRecDepth 100000
namespace Go.Proofs.YthifhnmfecjjcaaGreatDoor
open Go Go.AM
set_option maxRecDepth 100000
set_option maxHeartbeats 4000000
variable {N : Nat}
def inI (n a b : Int) : Bool := decide (a ≤ n ∧ n ≤ b)
theorem V61x0_eq (n a b : Int) : V61x0 N n a b = inI n a b := by
 unfold V61x0 F61x0 inI
 rw [Bool.eq_iff_iff]; simp
theorem V66x0_eq (n a b : Int) : V66x0 N n a b = !inI n a b := by
 unfold V66x0 F66x0 inI
 rw [Bool.eq_iff_iff]; simp <;> omega
def firstE (e : Int → Int) : Int → List D → Int
 | _, [] => 0
 | w, _ :: r => bif e w != 0 then e w else firstE e (w + 1) r
def wayE (n : Int) : Sum Int Unit := bif n != 0 then .inl n else .inr ()
theorem wayE_cons {e : Int → Int} {w : Int} {x : D} {l : List D} : wayE (firstE e w (x :: l)) = bif e w != 0 then .inl (e w) else wayE (firstE e (w + 1) l) := by
 simp only [firstE]
 cases h : e w != 0 with
 | true => simp only [_root_.cond_true, wayE, h]
 | false => rfl
section
variable {xs : List D} {w : Int}
end
theorem way_do {α : Type} (n : Int) (k0 : Int → α) (k1 : α) (z : α) : (bif inlB (some (wayE n)) then k0 (inlV (some (wayE n))) else bif (inrQ (some (wayE n))).isSome then k1 else z) = bif n != 0 then k0 n else k1 := by
 unfold wayE
 cases n != 0 <;> rfl
section
variable {name : List UInt8} {sport start : Int} {smps laps tags : List D}
end
end Go.Proofs.YthifhnmfecjjcaaGreatDoor

namespace Go.Proofs.YthifhnmfecjjcaaGreatDoor
open Go Go.AM
set_option maxRecDepth 100000
set_option maxHeartbeats 4000000
variable {N : Nat}
def zipAll (f : D → D → Bool) : List D → List D → Bool
 | x :: r, y :: s => f x y && zipAll f r s
 | _, _ => true
theorem zip_ind {xs ys : List D} (f : D → D → Bool) {S : Int → (Int → Option (Sum Unit Unit)) → Option (Sum Unit Unit)} {L : Nat → Int → Option (Sum Unit Unit)} (hL : ∀ m a, L (m + 1) a = S a (L m)) (hlen : xs.length ≤ maxLen) (hxy : xs.length = ys.length)
  (hend : ∀ kr, S xs.length kr = some (.inr ()))
  (hstep : ∀ (w : Int) (kr : Int → Option (Sum Unit Unit)), decide (w < xs.length) = true → inB w xs.length = true → inB w ys.length = true → S w kr = bif f (xs.getD w.toNat (.i 0)) (ys.getD w.toNat (.i 0)) then kr (IntKind.wrap .i64 (w + 1)) else some (.inl ()))
  (hN : maxLen < N) : L N 0 = some (bif zipAll f xs ys then .inr () else .inl ()) := by
 refine (for_ind (.i 0 : D) hL (fun w l => some (bif zipAll f l (ys.drop w.toNat) then .inr () else .inl ())) hlen ?_ ?_ hN).trans (by simp)
 ·intro kr; rw [hend]; simp [zipAll]
 ·intro w kr h0 h1 hw hi hk
  have h2 : w < ys.length := by omega
  rw [hstep w kr (decide_eq_true h1) hi (inB_of h0 (by omega)), hw, hk, drop_at (.i 0) (xs := ys) h0 h2]
  simp only [zipAll]
  cases f (xs.getD w.toNat (.i 0)) (ys.getD w.toNat (.i 0)) <;> rfl
section
variable {xs ys : List D}
end
section
variable {n n' : List UInt8} {sp st sp' st' : Int} {s l t s' l' t' : List D}
end
end Go.Proofs.YthifhnmfecjjcaaGreatDoor

namespace Go.Proofs.YthifhnmfecjjcaaGreatDoor
open Go Go.AM
set_option maxRecDepth 100000
set_option maxHeartbeats 4000000
variable {N : Nat}
theorem loop_indE {A X : Type} {S : A → (A → X) → X} {L : Nat → A → X} (hL : ∀ m a, L (m + 1) a = S a (L m)) (P : A → X → Prop) (Inv : A → Prop) (μ : A → Nat)
  (h : ∀ a kr, Inv a → (∀ a', Inv a' → μ a' < μ a → P a' (kr a')) → P a (S a kr)) : ∀ (m : Nat) (a : A), Inv a → μ a < m → P a (L m a) := by
 intro m
 induction m with
 | zero => intro a _ h; omega
 | succ m ih => intro a ha hm; rw [hL]; exact h a (L m) ha fun a' h1 h2 => ih a' h1 (by omega)
def fN (f : D) : Int := (f.cell 0).toI
def fS (f : D) : Int := (f.cell 1).toI
def fT (f : D) : Int := (f.cell 2).toI
def isT (f : D) : Bool := (fN f == 253) && (fT f == 0) && (fS f == 4)
def hasN (n : Int) (l : List D) : Bool := l.any fun f => fN f == n
def fldE (fs : List D) (w : Int) : Int :=
 bif !(inI (fN (fs.getD w.toNat (.i 0))) 0 255) || !(inI (fS (fs.getD w.toNat (.i 0))) 1 255) then 9 else bif !inI (fT (fs.getD w.toNat (.i 0))) 0 3 then 7 else
 bif decide (fT (fs.getD w.toNat (.i 0)) ≤ 1) && (fS (fs.getD w.toNat (.i 0)) != 1) && (fS (fs.getD w.toNat (.i 0)) != 2) && (fS (fs.getD w.toNat (.i 0)) != 4) then 2 else
 bif hasN (fN (fs.getD w.toNat (.i 0))) (fs.take w.toNat) then 5 else 0
def defE (g : Int) (fs : List D) : Int := bif !inI g 0 65535 then 9 else bif decide ((fs.length : Int) > 30) then 3 else firstE (fldE fs) 0 fs
theorem G107x0_eq (hN : maxLen < N) {xs : List D} {n : Int} (hs : xs.length ≤ maxLen) : ∃ i : Int, G107x0 N xs n = some i ∧ decide (i ≥ 0) = hasN n xs := by
 have h : G107x0x6 N xs xs.length n 0 = some (match xs.findIdx? fun d => fN d == n with | some j => .inl (j : Int) | none => .inr ()) := by
  unfold G107x0x6
  refine (for_ind (.i 0 : D) (S := fun w kr => S107x0x6 N xs xs.length n w kr _ _) (L := fun m w => L107x0x6 N xs xs.length n m w _ _) (fun m w => rfl) (fun w l => some (match l.findIdx? fun d => fN d == n with | some j => .inl (w + (j : Int)) | none => .inr ())) hs ?_ ?_ hN).trans (by simp)
  ·intro kr; simp [S107x0x6]
  ·intro w kr h0 h1 hw hi hk
   simp only [S107x0x6, V89x0, F89x0, decide_eq_true h1, _root_.cond_true, hi, bnd_eq, hw, hk, List.findIdx?_cons]
   show (bif (fN (xs.getD w.toNat (.i 0)) == n) then _ else _) = _
   cases fN (xs.getD w.toNat (.i 0)) == n with
   | true => simp
   | false =>
    simp only [_root_.cond_false, Bool.false_eq_true, if_false]
    cases (xs.drop (w + 1).toNat).findIdx? fun d => fN d == n with
    | none => rfl
    | some j => simp; omega
 unfold G107x0 F107x0
 rw [h]
 have hl : hasN n xs = (xs.findIdx? fun d => fN d == n).isSome := by
  rw [List.findIdx?_isSome]; rfl
 rw [hl]
 cases xs.findIdx? fun d => fN d == n with
 | none => exact ⟨-1, rfl, rfl⟩
 | some j => exact ⟨j, rfl, by simp⟩
theorem G88x0_eq (hN : maxLen < N) {xs : List D} {n : Int} (hs : xs.length ≤ maxLen) : G88x0 N xs n = some (hasN n xs) := by
 obtain ⟨i, h1, h2⟩ := G107x0_eq hN (n := n) hs
 unfold G88x0 F88x0
 rw [h1]
 simp only [bnd_eq, Option.isSome_some, _root_.cond_true, getD_some, h2]
theorem G67x0x45_eq (hN : maxLen < N) {xs : List D} {n : Int} (hs : xs.length ≤ maxLen) : G67x0x45 N xs xs.length n 0 = some (bif hasN n xs then .inl () else .inr ()) := by
 unfold G67x0x45
 refine (for_ind (.i 0 : D) (S := fun w kr => S67x0x45 N xs xs.length n w kr _ _) (L := fun m w => L67x0x45 N xs xs.length n m w _ _) (fun m w => rfl) (fun _ l => some (bif hasN n l then .inl () else .inr ())) hs ?_ ?_ hN).trans rfl
 ·intro kr; simp [S67x0x45, hasN]
 ·intro w kr h0 h1 hw hi hk
  simp only [S67x0x45, decide_eq_true h1, _root_.cond_true, hi, hw, hk, hasN, List.any_cons]
  show (bif (fN (xs.getD w.toNat (.i 0)) == n) then _ else _) = _
  cases fN (xs.getD w.toNat (.i 0)) == n <;> rfl
section
variable {fs : List D} {w : Int}
theorem take_ok (h0 : 0 ≤ w) (h1 : w < fs.length) : (decide (0 ≤ w) && decide (w ≤ (fs.length : Int))) = true := by
 rw [decide_eq_true h0, decide_eq_true (by omega)]; rfl
theorem G62x0x18_eq (hN : maxLen < N) (hl : fs.length ≤ maxLen) : G62x0x18 N fs fs.length fs 0 = some (wayE (firstE (fldE fs) 0 fs)) := by
 unfold G62x0x18
 refine (for_ind (.i 0 : D) (S := fun w kr => S62x0x18 N fs fs.length fs w kr _ _) (L := fun m w => L62x0x18 N fs fs.length fs m w _ _) (fun m w => rfl) (fun w l => some (wayE (firstE (fldE fs) w l))) hl ?_ ?_ hN).trans rfl
 ·intro kr; simp [S62x0x18, firstE, wayE]
 ·intro w kr h0 h1 hw hi hk
  have hm := G88x0_eq hN (xs := fs.take w.toNat) (n := fN (fs.getD w.toNat (.i 0))) (by simp; omega)
  simp only [S62x0x18, decide_eq_true h1, _root_.cond_true, hi, bnd_eq, hw, hk, take_ok h0 h1, List.drop_zero, V62x0x28, F62x0x28, V61x0_eq, wayE_cons]
  rw [show (((fs.getD w.toNat (.i 0)).cell 0).toI) = fN (fs.getD w.toNat (.i 0)) from rfl, hm]
  unfold fldE
  generalize hasN (fN (fs.getD w.toNat (.i 0))) (fs.take w.toNat) = hh
  generalize fs.getD w.toNat (.i 0) = f
  rw [show ((f.cell 1).toI) = fS f from rfl, show ((f.cell 2).toI) = fT f from rfl]
  simp only [Option.isSome_some, getD_some, _root_.cond_true]
  cases inI (fN f) 0 255 <;> try rfl
  cases inI (fS f) 1 255 <;> try rfl
  cases h3 : inI (fT f) 0 3 <;> try rfl
  have e : (bif fT f == 0 then true else fT f == 1) = decide (fT f ≤ 1) := by
   unfold inI at h3
   rw [Bool.eq_iff_iff]; simp at h3 ⊢
   by_cases h : fT f = 0 <;> simp [h] <;> omega
  rw [e]
  cases decide (fT f ≤ 1) <;> cases (fS f != 1) <;> cases (fS f != 2) <;> cases (fS f != 4) <;> cases hh <;> rfl
theorem G67x0x18_eq (hN : maxLen < N) (hl : fs.length ≤ maxLen) : G67x0x18 N fs fs.length fs 0 = some (wayE (firstE (fldE fs) 0 fs)) := by
 unfold G67x0x18
 refine (for_ind (.i 0 : D) (S := fun w kr => S67x0x18 N fs fs.length fs w kr _ _) (L := fun m w => L67x0x18 N fs fs.length fs m w _ _) (fun m w => rfl) (fun w l => some (wayE (firstE (fldE fs) w l))) hl ?_ ?_ hN).trans rfl
 ·intro kr; simp [S67x0x18, firstE, wayE]
 ·intro w kr h0 h1 hw hi hk
  have hm := G67x0x45_eq hN (xs := fs.take w.toNat) (n := fN (fs.getD w.toNat (.i 0))) (by simp; omega)
  simp only [S67x0x18, decide_eq_true h1, _root_.cond_true, hi, bnd_eq, hw, hk, take_ok h0 h1, List.drop_zero, V67x0x25, F67x0x25, V66x0_eq, wayE_cons]
  rw [show (((fs.getD w.toNat (.i 0)).cell 0).toI) = fN (fs.getD w.toNat (.i 0)) from rfl, hm]
  unfold fldE
  generalize hasN (fN (fs.getD w.toNat (.i 0))) (fs.take w.toNat) = hh
  generalize fs.getD w.toNat (.i 0) = f
  rw [show ((f.cell 1).toI) = fS f from rfl, show ((f.cell 2).toI) = fT f from rfl]
  cases inI (fN f) 0 255 <;> cases inI (fS f) 1 255 <;> cases inI (fT f) 0 3 <;> try rfl
  cases decide (fT f ≤ 1) <;> cases (fS f != 1) <;> cases (fS f != 2) <;> cases (fS f != 4) <;> cases hh <;> rfl
theorem G62x0_eq (hN : maxLen < N) (g : Int) (hl : fs.length ≤ maxLen) : G62x0 N g fs = some (defE g fs) := by
 unfold G62x0 F62x0 defE
 simp only [bnd_eq, V61x0_eq, G62x0x18_eq hN hl, way_do]
 cases inI g 0 65535 <;> cases decide ((fs.length : Int) > 30) <;> try rfl
 cases h : firstE (fldE fs) 0 fs != 0 <;> first | rfl | (simp only [bne_eq_false_iff_eq] at h; simp [h])
theorem G67x0_eq (hN : maxLen < N) (g : Int) (hl : fs.length ≤ maxLen) : G67x0 N g fs = some (defE g fs) := by
 unfold G67x0 F67x0 defE
 simp only [bnd_eq, V66x0_eq, G67x0x18_eq hN hl, way_do]
 cases inI g 0 65535 <;> cases decide ((fs.length : Int) > 30) <;> try rfl
 cases h : firstE (fldE fs) 0 fs != 0 <;> first | rfl | (simp only [bne_eq_false_iff_eq] at h; simp [h])
end
structure FldsOk (fs : List D) : Prop where
 len : fs.length ≤ 255
 size : ∀ f ∈ fs, 0 ≤ fS f ∧ fS f ≤ 255
theorem firstE_zero {e : Int → Int} : ∀ {l : List D} {w : Int}, firstE e w l = 0 → ∀ i : Nat, i < l.length → e (w + i) = 0
 | [], w, _, i, hi => by simp at hi
 | x :: r, w, h, i, hi => by
  simp only [firstE] at h
  cases he : e w != 0 with
  | true =>
   rw [he] at h
   simp only [_root_.cond_true] at h
   rw [h] at he
   simp at he
  | false =>
   rw [he] at h
   cases i with
   | zero => simpa using he
   | succ i =>
    have := firstE_zero (l := r) (w := w + 1) h i (by simpa using hi)
    rw [show w + ((i + 1 : Nat) : Int) = w + 1 + (i : Int) by omega]
    exact this
theorem defE_ok {g : Int} {fs : List D} (h : defE g fs = 0) : FldsOk fs := by
 unfold defE at h
 cases h1 : inI g 0 65535 with
 | false => rw [h1] at h; exact absurd (show (9 : Int) = 0 from h) (by decide)
 | true =>
  rw [h1] at h
  cases h2 : decide ((fs.length : Int) > 30) with
  | true => rw [h2] at h; exact absurd (show (3 : Int) = 0 from h) (by decide)
  | false =>
   rw [h2] at h
   simp only [Bool.not_true, _root_.cond_false] at h
   refine ⟨by simp at h2; omega, fun f hf => ?_⟩
   obtain ⟨i, hi, rfl⟩ := List.getElem_of_mem hf
   have := firstE_zero h i hi
   rw [Int.zero_add] at this
   unfold fldE at this
   have hg : fs.getD ((i : Int)).toNat (.i 0) = fs[i] := by
    rw [List.getD_eq_getElem?_getD, Int.toNat_natCast, List.getElem?_eq_getElem hi]; rfl
   rw [hg] at this
   cases h3 : inI (fS fs[i]) 1 255 with
   | false =>
    rw [h3] at this
    cases inI (fN fs[i]) 0 255 <;> exact absurd (show (9 : Int) = 0 from by simpa using this) (by decide)
   | true => unfold inI at h3; simp at h3; omega
def szL : List D → Int
 | [] => 0
 | f :: r => fS f + szL r
def tmL : Int → List D → Int
 | _, [] => -1
 | a, f :: r => bif isT f then a else tmL (a + fS f) r
def flds : Bool → List D → List D
 | _, [] => []
 | t, f :: r => bif t && isT f then flds false r else .a [.i (fN f), .i (fS f), .i (fT f)] :: flds t r
theorem szL_bound : ∀ {fs : List D}, (∀ f ∈ fs, 0 ≤ fS f ∧ fS f ≤ 255) → 0 ≤ szL fs ∧ szL fs ≤ 255 * fs.length
 | [], _ => by simp [szL]
 | f :: r, h => by
  have h1 := h f (by simp)
  have h2 := szL_bound (fs := r) fun x hx => h x (by simp [hx])
  simp only [szL, List.length_cons]
  omega
theorem tmL_bound : ∀ {fs : List D} {a : Int}, 0 ≤ a → (∀ f ∈ fs, 0 ≤ fS f ∧ fS f ≤ 255) → (tmL a fs = -1 ∨ a ≤ tmL a fs ∧ tmL a fs + 4 ≤ a + szL fs)
 | [], _, _, _ => .inl rfl
 | f :: r, a, ha, h => by
  have h1 := h f (by simp)
  simp only [tmL, szL]
  cases ht : isT f with
  | true =>
   have h2 := szL_bound (fs := r) fun x hx => h x (by simp [hx])
   have h3 : fS f = 4 := by unfold isT at ht; simp at ht; exact ht.2
   right; simp only [_root_.cond_true]; omega
  | false =>
   simp only [_root_.cond_false]
   rcases tmL_bound (fs := r) (a := a + fS f) (by omega) (fun x hx => h x (by simp [hx])) with h2 | h2
   ·exact .inl h2
   ·right; omega
theorem szL_flds_false : ∀ fs : List D, szL (flds false fs) = szL fs
 | [] => rfl
 | f :: r => by simp only [flds, Bool.false_and, _root_.cond_false, szL, szL_flds_false r]; rfl
theorem szL_flds : ∀ {fs : List D} {a : Int}, 0 ≤ a → (∀ f ∈ fs, 0 ≤ fS f ∧ fS f ≤ 255) → (tmL a fs < 0 → szL (flds true fs) = szL fs) ∧ (0 ≤ tmL a fs → szL (flds true fs) = szL fs - 4)
 | [], _, _, _ => ⟨fun _ => rfl, fun h => absurd (show (0 : Int) ≤ -1 from h) (by decide)⟩
 | f :: r, a, ha, h => by
  have h1 := h f (by simp)
  have e : fS (.a [.i (fN f), .i (fS f), .i (fT f)]) = fS f := rfl
  cases ht : isT f with
  | true =>
   have h3 : fS f = 4 := by unfold isT at ht; simp at ht; exact ht.2
   simp only [flds, tmL, szL, ht, Bool.and_self, _root_.cond_true, szL_flds_false]
   constructor <;> intro h4 <;> omega
  | false =>
   have h5 := szL_flds (fs := r) (a := a + fS f) (by omega) fun x hx => h x (by simp [hx])
   simp only [flds, tmL, szL, ht, Bool.and_false, _root_.cond_false, e]
   exact ⟨fun h4 => by rw [h5.1 h4], fun h4 => by rw [h5.2 h4]; omega⟩
section
variable {fs : List D}
theorem getD_mem {w : Int} (h0 : 0 ≤ w) (h1 : w < fs.length) : fs.getD w.toNat (.i 0) ∈ fs := by
 rw [List.getD_eq_getElem?_getD, List.getElem?_eq_getElem (by omega)]; exact List.getElem_mem _
theorem isT_eq (f : D) : (bif (bif ((f.cell 0).toI == 253) then ((f.cell 2).toI == 0) else false) then ((f.cell 1).toI == 4) else false) = isT f := by
 unfold isT fN fT fS
 cases (f.cell 0).toI == 253 <;> cases (f.cell 2).toI == 0 <;> rfl
theorem V90x0_eq (f : D) : V90x0 N (f.cell 0).toI (f.cell 1).toI (f.cell 2).toI = isT f := isT_eq f
theorem G63x0_eq (hN : maxLen < N) (h : FldsOk fs) : G63x0 N fs = some (szL fs, tmL 0 fs) := by
 have hm : maxLen = 9223372036854775807 := rfl
 have hl := h.len
 have key := loop_ind (A := Int × Int × Int) (X := Option (Int × Int)) (S := fun x kr => S63x0x9 N fs fs.length x.1 x.2.1 x.2.2 (fun a b c => kr (a, b, c)) (fun p => some p)) (L := fun m x => L63x0x9 N fs fs.length m x.1 x.2.1 x.2.2 (fun p => some p)) (fun m x => rfl)
  (fun x => some (x.2.1 + szL (fs.drop x.1.toNat), bif decide (x.2.2 < 0) then tmL x.2.1 (fs.drop x.1.toNat) else x.2.2)) (fun x => 0 ≤ x.1 ∧ x.1 ≤ fs.length ∧ 0 ≤ x.2.1 ∧ x.2.1 ≤ 255 * x.1 ∧ -1 ≤ x.2.2) (fun x => (fs.length - x.1).toNat) ?_ N (0, 0, -1) ⟨by decide, by show (0 : Int) ≤ _; omega, by decide, by decide, by decide⟩ (by simp; omega)
 ·have k2 : G63x0x9 N fs fs.length 0 0 (-1) = some (szL fs, tmL 0 fs) := by
   refine Eq.trans key ?_
   simp
  unfold G63x0 F63x0
  rw [k2]; rfl
 ·rintro ⟨w, sz, t⟩ kr ⟨h0, h1, h2, h3, h4⟩ ih
  simp only at h0 h1 h2 h3 h4 ih ⊢
  unfold S63x0x9
  by_cases hw : w < fs.length
  ·have hf := h.size _ (getD_mem h0 hw)
   rw [decide_eq_true hw, inB_of h0 hw, drop_at (.i 0) h0 hw]
   simp only [_root_.cond_true, bnd_eq, V63x0x20, F63x0x20]
   rw [isT_eq]
   have e1 : ((fs.getD w.toNat (.i 0)).cell 1).toI = fS (fs.getD w.toNat (.i 0)) := rfl
   rw [e1, wrapI (x := sz + _) (by omega) (by omega), wrapI (x := w + 1) (by omega) (by omega)]
   rw [ih (w + 1, _, _) ⟨by omega, by omega, by simp only; omega, by simp only; omega, by simp only; cases isT (fs.getD w.toNat (.i 0)) <;> cases decide (t < 0) <;> simp <;> omega⟩ (by simp only; omega)]
   simp only [szL, tmL]
   cases ht : isT (fs.getD w.toNat (.i 0)) with
   | true =>
    by_cases hneg : t < 0
    ·simp only [decide_eq_true hneg, _root_.cond_true, decide_eq_false (show ¬ sz < 0 by omega), _root_.cond_false, Option.some.injEq, Prod.mk.injEq, and_true]; omega
    ·simp only [decide_eq_false hneg, _root_.cond_true, _root_.cond_false, Option.some.injEq, Prod.mk.injEq, and_true]; omega
   | false =>
    simp only [_root_.cond_false, Option.some.injEq, Prod.mk.injEq]
    refine ⟨by omega, ?_⟩
    by_cases hneg : t < 0 <;> simp [hneg]
  ·have : w = fs.length := by omega
   subst this
   rw [decide_eq_false hw, drop_end (by omega)]
   simp only [_root_.cond_false, szL, tmL, Int.add_zero, Option.some.injEq, Prod.mk.injEq, true_and]
   by_cases ht : t < 0
   ·rw [decide_eq_true ht]; simp only [_root_.cond_true]; omega
   ·rw [decide_eq_false ht]; rfl
def tmW (n : Int) : Sum Int Unit := bif decide (n < 0) then .inr () else .inl n
theorem G68x0_eq (hN : maxLen < N) (h : FldsOk fs) : G68x0 N fs = some (bif decide (tmL 0 fs < 0) then (0, false) else (tmL 0 fs, true)) := by
 have hm : maxLen = 9223372036854775807 := rfl
 have hl := h.len
 have key := loop_ind (A := Int × Int) (X := Option (Sum Int Unit)) (S := fun x kr => S68x0x9 N fs fs.length x.1 x.2 (fun a b => kr (a, b)) (fun p => some (.inl p)) (fun p => some (.inr p))) (L := fun m x => L68x0x9 N fs fs.length m x.1 x.2 (fun p => some (.inl p)) (fun p => some (.inr p))) (fun m x => rfl)
  (fun x => some (tmW (tmL x.1 (fs.drop x.2.toNat)))) (fun x => 0 ≤ x.2 ∧ x.2 ≤ fs.length ∧ 0 ≤ x.1 ∧ x.1 ≤ 255 * x.2) (fun x => (fs.length - x.2).toNat) ?_ N (0, 0) ⟨by decide, by show (0 : Int) ≤ _; omega, by decide, by decide⟩ (by simp; omega)
 ·have k2 : G68x0x9 N fs fs.length 0 0 = some (tmW (tmL 0 fs)) := by
   refine Eq.trans key ?_
   simp
  unfold G68x0 F68x0
  rw [k2]
  unfold tmW
  cases decide (tmL 0 fs < 0) <;> rfl
 ·rintro ⟨sz, w⟩ kr ⟨h0, h1, h2, h3⟩ ih
  simp only at h0 h1 h2 h3 ih ⊢
  unfold S68x0x9
  by_cases hw : w < fs.length
  ·have hf := h.size _ (getD_mem h0 hw)
   rw [decide_eq_true hw, inB_of h0 hw, drop_at (.i 0) h0 hw]
   simp only [_root_.cond_true, bnd_eq, V90x0_eq]
   have e1 : ((fs.getD w.toNat (.i 0)).cell 1).toI = fS (fs.getD w.toNat (.i 0)) := rfl
   rw [e1, wrapI (x := sz + _) (by omega) (by omega), wrapI (x := w + 1) (by omega) (by omega)]
   simp only [tmL]
   cases ht : isT (fs.getD w.toNat (.i 0)) with
   | true => simp only [_root_.cond_true]; unfold tmW; rw [decide_eq_false (by omega)]; rfl
   | false =>
    simp only [_root_.cond_false]
    exact ih (sz + fS (fs.getD w.toNat (.i 0)), w + 1) ⟨by omega, by omega, by simp only; omega, by simp only; omega⟩ (by simp only; omega)
  ·have : w = fs.length := by omega
   subst this
   rw [decide_eq_false hw, drop_end (by omega)]
   rfl
theorem G69x0_eq (hN : maxLen < N) (h : FldsOk fs) : G69x0 N fs = some (szL fs) := by
 have hm : maxLen = 9223372036854775807 := rfl
 have hl := h.len
 have key := loop_ind (A := Int × Int) (X := Option Int) (S := fun x kr => S69x0x9 N fs fs.length x.1 x.2 (fun a b => kr (a, b)) (fun p => some p)) (L := fun m x => L69x0x9 N fs fs.length m x.1 x.2 (fun p => some p)) (fun m x => rfl)
  (fun x => some (x.1 + szL (fs.drop x.2.toNat))) (fun x => 0 ≤ x.2 ∧ x.2 ≤ fs.length ∧ 0 ≤ x.1 ∧ x.1 ≤ 255 * x.2) (fun x => (fs.length - x.2).toNat) ?_ N (0, 0) ⟨by decide, by show (0 : Int) ≤ _; omega, by decide, by decide⟩ (by simp; omega)
 ·have k2 : G69x0x9 N fs fs.length 0 0 = some (szL fs) := by
   refine Eq.trans key ?_
   simp
  unfold G69x0 F69x0
  rw [k2]; rfl
 ·rintro ⟨sz, w⟩ kr ⟨h0, h1, h2, h3⟩ ih
  simp only at h0 h1 h2 h3 ih ⊢
  unfold S69x0x9
  by_cases hw : w < fs.length
  ·have hf := h.size _ (getD_mem h0 hw)
   rw [decide_eq_true hw, inB_of h0 hw, drop_at (.i 0) h0 hw]
   simp only [_root_.cond_true, bnd_eq]
   have e1 : ((fs.getD w.toNat (.i 0)).cell 1).toI = fS (fs.getD w.toNat (.i 0)) := rfl
   rw [e1, wrapI (x := sz + _) (by omega) (by omega), wrapI (x := w + 1) (by omega) (by omega)]
   rw [ih (sz + fS (fs.getD w.toNat (.i 0)), w + 1) ⟨by omega, by omega, by simp only; omega, by simp only; omega⟩ (by simp only; omega)]
   simp only [szL, Option.some.injEq]; omega
  ·have : w = fs.length := by omega
   subst this
   rw [decide_eq_false hw, drop_end (by omega)]
   simp only [_root_.cond_false, szL, Int.add_zero]
theorem flds_ok : ∀ {fs : List D} {t : Bool}, (∀ f ∈ fs, 0 ≤ fS f ∧ fS f ≤ 255) → (flds t fs).length ≤ fs.length ∧ ∀ f ∈ flds t fs, 0 ≤ fS f ∧ fS f ≤ 255
 | [], _, _ => by simp [flds]
 | f :: r, t, h => by
  have h1 := h f (by simp)
  have h2 : ∀ t, _ := fun t => flds_ok (fs := r) (t := t) fun x hx => h x (by simp [hx])
  simp only [flds]
  cases t && isT f with
  | true => simp only [_root_.cond_true, List.length_cons]; exact ⟨by have := (h2 false).1; omega, (h2 false).2⟩
  | false =>
   simp only [_root_.cond_false, List.length_cons]
   refine ⟨by have := (h2 t).1; omega, fun x hx => ?_⟩
   rcases List.mem_cons.1 hx with rfl | hx
   ·exact h1
   ·exact (h2 t).2 x hx
theorem FldsOk.flds (h : FldsOk fs) (t : Bool) : FldsOk (flds t fs) := ⟨Nat.le_trans (flds_ok h.size).1 h.len, (flds_ok h.size).2⟩
theorem G70x0_eq (hN : maxLen < N) (h : FldsOk fs) (t : Bool) : ∃ nl, G70x0 N fs t = some (nl, flds t fs) := by
 have hm : maxLen = 9223372036854775807 := rfl
 have hl := h.len
 have key := loop_indE (A := Bool × Int × Bool × LD) (X := Option (Bool × LD)) (S := fun x kr => S70x0x12 N fs fs.length x.1 x.2.1 x.2.2.1 x.2.2.2 (fun a b c d => kr (a, b, c, d)) (fun p => some p)) (L := fun m x => L70x0x12 N fs fs.length m x.1 x.2.1 x.2.2.1 x.2.2.2 (fun p => some p)) (fun m x => rfl)
  (fun x r => ∃ nl, r = some (nl, x.2.2.2 ++ Proofs.YthifhnmfecjjcaaGreatDoor.flds x.1 (fs.drop x.2.1.toNat))) (fun x => 0 ≤ x.2.1 ∧ x.2.1 ≤ fs.length ∧ (x.2.2.2.length : Int) ≤ x.2.1) (fun x => (fs.length - x.2.1).toNat) ?_ N (t, 0, true, []) ⟨by show (0 : Int) ≤ 0; omega, by show (0 : Int) ≤ _; omega, by simp⟩ (by simp; omega)
 ·obtain ⟨nl, k2⟩ := key
  have k3 : G70x0x12 N fs fs.length t 0 true [] = some (nl, Proofs.YthifhnmfecjjcaaGreatDoor.flds t fs) := by
   refine Eq.trans k2 ?_
   simp
  refine ⟨nl, ?_⟩
  unfold G70x0 F70x0
  rw [k3]; rfl
 ·rintro ⟨t, w, b, l⟩ kr ⟨h0, h1, h2⟩ ih
  simp only at h0 h1 h2 ih ⊢
  unfold S70x0x12
  by_cases hw : w < fs.length
  ·rw [decide_eq_true hw, inB_of h0 hw, drop_at (.i 0) h0 hw]
   have r1 : decide ((l.length + 1) * 24 ≤ room) = true := decide_eq_true (by unfold room; omega)
   have r2 : decide (l.length + 1 ≤ strMax) = true := decide_eq_true (by unfold strMax; omega)
   have hv : V70x0x19 N t ((fs.getD w.toNat (.i 0)).cell 0).toI ((fs.getD w.toNat (.i 0)).cell 1).toI ((fs.getD w.toNat (.i 0)).cell 2).toI = (t && isT (fs.getD w.toNat (.i 0))) := by
    unfold V70x0x19 F70x0x19
    simp only [bnd_eq, V90x0_eq]
    cases t <;> rfl
   simp only [_root_.cond_true, bnd_eq, hv, r1, r2, Bool.and_self, wrapI (x := w + 1) (by omega) (by omega), Proofs.YthifhnmfecjjcaaGreatDoor.flds]
   cases t && isT (fs.getD w.toNat (.i 0)) with
   | true =>
    simp only [_root_.cond_true]
    exact ih (false, w + 1, b, l) ⟨by simp only; omega, by simp only; omega, by simp only; omega⟩ (by simp only; omega)
   | false =>
    simp only [_root_.cond_false]
    obtain ⟨nl, e⟩ := ih (t, w + 1, false, l ++ [.a [.i (fN (fs.getD w.toNat (.i 0))), .i (fS (fs.getD w.toNat (.i 0))), .i (fT (fs.getD w.toNat (.i 0)))]]) ⟨by simp only; omega, by simp only; omega, by simp; omega⟩ (by simp only; omega)
    exact ⟨nl, by rw [← List.append_cons] at e; exact e⟩
  ·have : w = fs.length := by omega
   subst this
   rw [decide_eq_false hw, drop_end (by omega)]
   exact ⟨b, by simp [Proofs.YthifhnmfecjjcaaGreatDoor.flds]⟩
end
end Go.Proofs.YthifhnmfecjjcaaGreatDoor

namespace Go.Proofs.YthifhnmfecjjcaaGreatDoor
open Go Go.AM
set_option maxRecDepth 100000
set_option maxHeartbeats 4000000
variable {N : Nat}
theorem or_byte {n b : Nat} (hn : n < 1099511627776) (hb : b < 256) : (bitsV .or .i64 (IntKind.wrap .i64 ((n : Int) * 2 ^ 8)) (IntKind.wrap .i64 (b : Int))).getD 0 = 256 * (n : Int) + b := by
 have e1 : IntKind.wrap .i64 ((n : Int) * 2 ^ 8) = ((n * 256 : Nat) : Int) := by rw [wrapI (by omega) (by omega)]; omega
 have e2 : IntKind.wrap .i64 (b : Int) = (b : Int) := wrapI (by omega) (by omega)
 rw [e1, e2]
 have h64 : IntKind.bits .i64 = 64 := rfl
 have o : (BitVec.ofInt 64 ((n * 256 : Nat) : Int) ||| BitVec.ofInt 64 (b : Int)).toNat = n * 256 + b := by
  rw [BitVec.toNat_or, BitVec.ofInt_natCast, BitVec.ofInt_natCast, BitVec.toNat_ofNat, BitVec.toNat_ofNat, Nat.mod_eq_of_lt (by omega), Nat.mod_eq_of_lt (by omega)]
  have := Nat.shiftLeft_add_eq_or_of_lt (b := b) (i := 8) (by omega) n
  rw [Nat.shiftLeft_eq] at this
  exact this.symm
 show IntKind.wrap .i64 (((BitVec.ofInt 64 ((n * 256 : Nat) : Int) ||| BitVec.ofInt 64 (b : Int)).toNat : Nat) : Int) = _
 rw [o, wrapI (by omega) (by omega)]
 omega
def BytesOk (xs : List D) : Prop := ∀ x ∈ xs, 0 ≤ x.toI ∧ x.toI ≤ 255
def pkB (len : Int) (big : Bool) (i : Int) : Int := bif big then i else len - 1 - i
def numR (xs : List D) (big : Bool) : Nat → Int → Int → Int
 | 0, _, n => n
 | k + 1, i, n => numR xs big k (i + 1) (256 * n + (xs.getD (pkB xs.length big i).toNat (.i 0)).toI)
def numB (xs : List D) (big : Bool) : Int := numR xs big xs.length 0 0
theorem pow_step {n b i : Int} (h0 : 0 ≤ i) (h1 : 0 ≤ n) (h2 : n < 256 ^ i.toNat) (h3 : 0 ≤ b) (h4 : b ≤ 255) : 0 ≤ 256 * n + b ∧ 256 * n + b < 256 ^ (i + 1).toNat := by
 have e : (i + 1).toNat = i.toNat + 1 := by omega
 rw [e, Int.pow_succ]
 omega
theorem pow_le {n i : Int} (h0 : 0 ≤ i) (h1 : i ≤ 4) (h2 : n < 256 ^ i.toNat) : n < 4294967296 := by
 have : i = 0 ∨ i = 1 ∨ i = 2 ∨ i = 3 ∨ i = 4 := by omega
 rcases this with rfl | rfl | rfl | rfl | rfl <;> simp at h2 <;> omega
theorem getB {xs : List D} (h : BytesOk xs) {i : Int} (h0 : 0 ≤ i) (h1 : i < xs.length) : 0 ≤ (xs.getD i.toNat (.i 0)).toI ∧ (xs.getD i.toNat (.i 0)).toI ≤ 255 := h _ (getD_mem h0 h1)
section
variable {xs : List D}
theorem pkB_in {big : Bool} {i : Int} (h0 : 0 ≤ i) (h1 : i < xs.length) : 0 ≤ pkB xs.length big i ∧ pkB xs.length big i < xs.length := by
 unfold pkB; cases big <;> simp <;> omega
theorem numR_bound (hb : BytesOk xs) (big : Bool) : ∀ (k : Nat) (i n : Int), 0 ≤ i → i + k = xs.length → 0 ≤ n → n < 256 ^ i.toNat → 0 ≤ numR xs big k i n ∧ numR xs big k i n < 256 ^ xs.length
 | 0, i, n, h0, h1, h2, h3 => by
  have : i.toNat = xs.length := by omega
  rw [this] at h3
  exact ⟨h2, h3⟩
 | k + 1, i, n, h0, h1, h2, h3 => by
  obtain ⟨p0, p1⟩ := pkB_in (xs := xs) (big := big) h0 (by omega)
  obtain ⟨b0, b1⟩ := getB hb p0 p1
  obtain ⟨q0, q1⟩ := pow_step h0 h2 h3 b0 b1
  exact numR_bound hb big k (i + 1) _ (by omega) (by omega) q0 q1
theorem numB_bound (hb : BytesOk xs) (big : Bool) (hl : xs.length ≤ 4) : 0 ≤ numB xs big ∧ numB xs big < 4294967296 := by
 obtain ⟨h1, h2⟩ := numR_bound hb big xs.length 0 0 (by omega) (by omega) (by omega) (by simp)
 refine ⟨h1, ?_⟩
 have := pow_le (i := (xs.length : Int)) (by omega) (by omega) (n := numB xs big) (by unfold numB; simpa using h2)
 exact this
theorem G64x0_eq (hN : maxLen < N) (hb : BytesOk xs) (big : Bool) (hl : xs.length ≤ 4) : G64x0 N xs big = some (numB xs big) := by
 have hm : maxLen = 9223372036854775807 := rfl
 have key := loop_ind (A := Int × Int) (X := Option Int) (S := fun x kr => S64x0x9 N xs big xs.length x.1 x.2 (fun a b => kr (a, b)) (fun p => some p)) (L := fun m x => L64x0x9 N xs big xs.length m x.1 x.2 (fun p => some p)) (fun m x => rfl)
  (fun x => some (numR xs big (xs.length - x.2).toNat x.2 x.1)) (fun x => 0 ≤ x.2 ∧ x.2 ≤ xs.length ∧ 0 ≤ x.1 ∧ x.1 < 256 ^ x.2.toNat) (fun x => (xs.length - x.2).toNat) ?_ N (0, 0) ⟨by decide, by show (0 : Int) ≤ _; omega, by decide, by decide⟩ (by simp; omega)
 ·have k2 : G64x0x9 N xs big xs.length 0 0 = some (numB xs big) := by
   refine Eq.trans key ?_
   simp [numB]
  unfold G64x0 F64x0
  rw [k2]; rfl
 ·rintro ⟨n, i⟩ kr ⟨h0, h1, h2, h3⟩ ih
  simp only at h0 h1 h2 h3 ih ⊢
  unfold S64x0x9
  by_cases hw : i < xs.length
  ·obtain ⟨p0, p1⟩ := pkB_in (xs := xs) (big := big) h0 hw
   obtain ⟨b0, b1⟩ := getB hb p0 p1
   obtain ⟨q0, q1⟩ := pow_step h0 h2 h3 b0 b1
   have hn := pow_le h0 (by omega) h3
   have hv : V64x0x23 N i (IntKind.wrap .i64 ((IntKind.wrap .i64 ((xs.length : Int) - 1)) - i)) big = pkB xs.length big i := by
    rw [wrapI (x := (xs.length : Int) - 1) (by omega) (by omega), wrapI (x := (xs.length : Int) - 1 - i) (by omega) (by omega)]
    unfold V64x0x23 F64x0x23 pkB
    cases big <;> rfl
   have ho := or_byte (n := n.toNat) (b := (xs.getD (pkB xs.length big i).toNat (.i 0)).toI.toNat) (by omega) (by omega)
   rw [Int.toNat_of_nonneg h2, Int.toNat_of_nonneg b0] at ho
   rw [decide_eq_true hw]
   simp only [_root_.cond_true, bnd_eq, hv, inB_of p0 p1, ho, wrapI (x := i + 1) (by omega) (by omega)]
   rw [ih (_, i + 1) ⟨by simp only; omega, by simp only; omega, q0, q1⟩ (by simp only; omega)]
   have e : (xs.length - i).toNat = (xs.length - (i + 1)).toNat + 1 := by omega
   rw [e]
   rfl
  ·have : i = xs.length := by omega
   subst this
   rw [decide_eq_false hw]
   simp [numR]
theorem G71x0_eq (hN : maxLen < N) (hb : BytesOk xs) (big : Bool) (hl : xs.length ≤ 4) : G71x0 N xs big = some (numB xs big) := by
 have hm : maxLen = 9223372036854775807 := rfl
 have key := loop_ind (A := Int × Int) (X := Option Int) (S := fun x kr => S71x0x9 N xs big xs.length x.1 x.2 (fun a b => kr (a, b)) (fun p => some p)) (L := fun m x => L71x0x9 N xs big xs.length m x.1 x.2 (fun p => some p)) (fun m x => rfl)
  (fun x => some (numR xs big (xs.length - x.2).toNat x.2 x.1)) (fun x => 0 ≤ x.2 ∧ x.2 ≤ xs.length ∧ 0 ≤ x.1 ∧ x.1 < 256 ^ x.2.toNat) (fun x => (xs.length - x.2).toNat) ?_ N (0, 0) ⟨by decide, by show (0 : Int) ≤ _; omega, by decide, by decide⟩ (by simp; omega)
 ·have k2 : G71x0x9 N xs big xs.length 0 0 = some (numB xs big) := by
   refine Eq.trans key ?_
   simp [numB]
  unfold G71x0 F71x0
  rw [k2]; rfl
 ·rintro ⟨n, i⟩ kr ⟨h0, h1, h2, h3⟩ ih
  simp only at h0 h1 h2 h3 ih ⊢
  unfold S71x0x9
  by_cases hw : i < xs.length
  ·obtain ⟨p0, p1⟩ := pkB_in (xs := xs) (big := big) h0 hw
   obtain ⟨b0, b1⟩ := getB hb p0 p1
   obtain ⟨q0, q1⟩ := pow_step h0 h2 h3 b0 b1
   have hn := pow_le h0 (by omega) h3
   have hv : V71x0x23 N xs i i (!big) = pkB xs.length big i := by
    unfold V71x0x23 F71x0x23 pkB
    rw [wrapI (x := (xs.length : Int) - 1) (by omega) (by omega), wrapI (x := (xs.length : Int) - 1 - i) (by omega) (by omega)]
    cases big <;> rfl
   have ho : IntKind.wrap .i64 ((IntKind.wrap .i64 (256 * n)) + (IntKind.wrap .i64 (xs.getD (pkB xs.length big i).toNat (.i 0)).toI)) = 256 * n + (xs.getD (pkB xs.length big i).toNat (.i 0)).toI := by
    rw [wrapI (x := 256 * n) (by omega) (by omega), wrapI (x := (xs.getD (pkB xs.length big i).toNat (.i 0)).toI) (by omega) (by omega), wrapI (by omega) (by omega)]
   rw [decide_eq_true hw]
   simp only [_root_.cond_true, bnd_eq, hv, inB_of p0 p1, ho, wrapI (x := i + 1) (by omega) (by omega)]
   rw [ih (_, i + 1) ⟨by simp only; omega, by simp only; omega, q0, q1⟩ (by simp only; omega)]
   have e : (xs.length - i).toNat = (xs.length - (i + 1)).toNat + 1 := by omega
   rw [e]
   rfl
  ·have : i = xs.length := by omega
   subst this
   rw [decide_eq_false hw]
   simp [numR]
end
theorem missing4 : G65x0 N 4 false = some 4294967295 := by
 unfold G65x0 F65x0
 have e1 : IntKind.wrap .i64 (8 * 4) = 32 := by decide
 rw [e1]
 have e2 : IntKind.wrap .i64 (1 * 2 ^ (min (32 : Int).toNat 64)) = 4294967296 := by decide
 have e3 : IntKind.wrap .i64 ((4294967296 : Int) - 1) = 4294967295 := by decide
 simp only [_root_.cond_false, bnd_eq, e2, e3]
 rfl
structure Slots (p s : D) : Prop where
 known : ∀ j : Nat, j < 16 → (p.cell (0 + j * 6)).toB = (s.cell (0 + j * 1)).toB
 defs : ∀ j : Nat, j < 16 → (p.cell (0 + j * 6)).toB = true → FldsOk (p.cell (3 + j * 6)).items ∧ (p.cell (1 + j * 6)).toB = (s.cell (16 + j * 3)).toB ∧ (p.cell (2 + j * 6)).toI = (s.cell (17 + j * 3)).toI ∧
  (p.cell (3 + j * 6)).items = (s.cell (18 + j * 3)).items ∧ (p.cell (4 + j * 6)).toI = szL (p.cell (3 + j * 6)).items ∧ (p.cell (5 + j * 6)).toI = tmL 0 (p.cell (3 + j * 6)).items
structure Sim (p s : D) (k : Int) : Prop extends Slots p s where
 last : (p.cell 96).toI = (s.cell 64).toI
 lo : -1 ≤ (p.cell 96).toI
 hi : (p.cell 96).toI ≤ 4294967295 + 32 * k
structure EntL (ds data : List D) : Prop where
 d : ds.length ≤ maxLen
 b : data.length ≤ maxLen
 f : ∀ x ∈ ds, (x.cell 2).items.length ≤ maxLen
 y : BytesOk data
def entE (kind slot off : Int) (ds data : List D) (known : Bool) (size time last : Int) : Int :=
 bif !inI kind 1 3 then 7 else bif !inI slot 0 (bif kind == 3 then 3 else 15) || !inI off 0 (bif kind == 3 then 31 else 0) then 9 else
 bif kind == 1 then (bif ((ds.length : Int) != 1) || decide ((data.length : Int) > 0) then 2 else defE ((ds.getD 0 (.i 0)).cell 1).toI ((ds.getD 0 (.i 0)).cell 2).items) else
 bif (ds.length : Int) != 0 then 2 else bif !known || ((kind == 3) && (decide (time < 0) || decide (last < 0))) then 11 else bif (data.length : Int) != (bif kind == 3 then size - 4 else size) then 2 else 0
section
variable {kind slot off : Int} {ds data : List D} {p s : D} {k : Int}
theorem slot_in (h : inI slot 0 (bif kind == 3 then 3 else 15) = true) : inB slot 16 = true ∧ slot.toNat < 16 := by
 unfold inI at h
 cases hk : kind == 3 <;> rw [hk] at h <;> simp at h <;> exact ⟨inB_of (by omega) (by omega), by omega⟩
theorem G35x0_eq (hN : maxLen < N) (hs : Sim p s k) (he : EntL ds data) : G35x0 N kind slot off ds data p = some (entE kind slot off ds data (p.cell (0 + slot.toNat * 6)).toB (p.cell (4 + slot.toNat * 6)).toI (p.cell (5 + slot.toNat * 6)).toI (p.cell 96).toI) := by
 have hm : maxLen = 9223372036854775807 := rfl
 unfold G35x0 F35x0 entE V35x0x14 F35x0x14 V35x0x20 F35x0x20 V35x0x28 F35x0x28 V35x0x62 F35x0x62
 simp only [bnd_eq, V61x0_eq]
 cases h1 : inI kind 1 3 with
 | false => rfl
 | true =>
 have e14 : (bif kind == 3 then ((3 : Int), (31 : Int)) else (15, 0)) = ((bif kind == 3 then 3 else 15), (bif kind == 3 then 31 else 0)) := by cases kind == 3 <;> rfl
 rw [e14]
 simp only [Bool.not_true, _root_.cond_false]
 cases h2 : inI slot 0 (bif kind == 3 then 3 else 15) with
 | false => rfl
 | true =>
 obtain ⟨i1, i2⟩ := slot_in h2
 cases h3 : inI off 0 (bif kind == 3 then 31 else 0) with
 | false => rfl
 | true =>
 simp only [Bool.not_true, _root_.cond_false, Bool.or_self]
 by_cases hk : kind = 1
 ·subst hk
  simp only [beq_self_eq_true, _root_.cond_true]
  cases h4 : ((ds.length : Int) != 1) with
  | true => rfl
  | false =>
   have hl : ds.length = 1 := by simp at h4; omega
   cases decide ((data.length : Int) > 0) with
   | true => rfl
   | false =>
    have hmem : ds.getD 0 (.i 0) ∈ ds := getD_mem (w := 0) (by omega) (by omega)
    simp only [_root_.cond_false, Bool.or_self]
    rw [inB_of (by omega) (by omega), G62x0_eq hN _ (he.f _ hmem)]
    rfl
 ·have hk1 : (kind == 1) = false := by simpa using hk
  rw [hk1]
  simp only [_root_.cond_false]
  cases h4 : ((ds.length : Int) != 0) with
  | true => rfl
  | false =>
   simp only [_root_.cond_false, i1, _root_.cond_true]
   cases hkn : (p.cell (0 + slot.toNat * 6)).toB with
   | false => rfl
   | true =>
    obtain ⟨d1, _, _, _, d5, d6⟩ := hs.defs _ i2 hkn
    have hb := szL_bound d1.size
    have hl := d1.len
    cases hk3 : kind == 3 with
    | false =>
     simp only [Bool.not_true, _root_.cond_false, Bool.false_and, Bool.or_self]
     cases ((data.length : Int) != (p.cell (4 + slot.toNat * 6)).toI) <;> rfl
    | true =>
     simp only [Bool.not_true, _root_.cond_false, _root_.cond_true, Bool.true_and, Bool.false_or]
     cases decide ((p.cell (5 + slot.toNat * 6)).toI < 0) with
     | true => rfl
     | false =>
      cases decide ((p.cell 96).toI < 0) with
      | true => rfl
      | false =>
       simp only [_root_.cond_false, Bool.or_self]
       rw [wrapI (by omega) (by omega)]
       cases ((data.length : Int) != (p.cell (4 + slot.toNat * 6)).toI - 4) <;> rfl
theorem G40x0_eq (hN : maxLen < N) (hs : Sim p s k) (he : EntL ds data) : G40x0 N kind slot off ds data s = some (entE kind slot off ds data (p.cell (0 + slot.toNat * 6)).toB (p.cell (4 + slot.toNat * 6)).toI (p.cell (5 + slot.toNat * 6)).toI (p.cell 96).toI) := by
 have hm : maxLen = 9223372036854775807 := rfl
 unfold G40x0 F40x0 entE V40x0x17 F40x0x17 V40x0x19 F40x0x19
 simp only [bnd_eq, V66x0_eq]
 cases h1 : inI kind 1 3 with
 | false => rfl
 | true =>
 have e14 : (bif kind == 3 then ((3 : Int), (31 : Int)) else (15, 0)) = ((bif kind == 3 then 3 else 15), (bif kind == 3 then 31 else 0)) := by cases kind == 3 <;> rfl
 rw [e14]
 simp only [Bool.not_true, _root_.cond_false]
 cases h2 : inI slot 0 (bif kind == 3 then 3 else 15) with
 | false => rfl
 | true =>
 obtain ⟨i1, i2⟩ := slot_in h2
 cases h3 : inI off 0 (bif kind == 3 then 31 else 0) with
 | false => rfl
 | true =>
 simp only [Bool.not_true, _root_.cond_false, Bool.or_self]
 by_cases hk : kind = 1
 ·subst hk
  simp only [beq_self_eq_true, _root_.cond_true]
  cases h4 : ((ds.length : Int) != 1) with
  | true => rfl
  | false =>
   have hl : ds.length = 1 := by simp at h4; omega
   cases decide ((data.length : Int) > 0) with
   | true => rfl
   | false =>
    have hmem : ds.getD 0 (.i 0) ∈ ds := getD_mem (w := 0) (by omega) (by omega)
    simp only [_root_.cond_false, Bool.or_self]
    rw [inB_of (by omega) (by omega), G67x0_eq hN _ (he.f _ hmem)]
    rfl
 ·have hk1 : (kind == 1) = false := by simpa using hk
  have e0 : decide ((ds.length : Int) > 0) = ((ds.length : Int) != 0) := by rw [Bool.eq_iff_iff]; simp only [decide_eq_true_eq, bne_iff_ne]; omega
  rw [hk1, e0]
  simp only [_root_.cond_false]
  cases h4 : ((ds.length : Int) != 0) with
  | true => rfl
  | false =>
   simp only [_root_.cond_false, i1, _root_.cond_true, ← hs.known _ i2]
   cases hkn : (p.cell (0 + slot.toNat * 6)).toB with
   | false => rfl
   | true =>
    obtain ⟨d1, _, _, d4, d5, d6⟩ := hs.defs _ i2 hkn
    rw [← d4, ← hs.last, d5, d6, G68x0_eq hN d1]
    obtain ⟨nl, hf⟩ := G70x0_eq hN d1 (kind == 3)
    rw [hf]
    simp only [Option.isSome_some, getD_some, _root_.cond_true, G69x0_eq hN (d1.flds _)]
    have z := szL_flds (a := 0) (by omega) d1.size
    cases hk3 : kind == 3 with
    | false =>
     simp only [Bool.not_true, _root_.cond_false, Bool.false_and, Bool.or_self, szL_flds_false]
     cases ((data.length : Int) != szL (p.cell (3 + slot.toNat * 6)).items) <;> rfl
    | true =>
     by_cases ht : tmL 0 (p.cell (3 + slot.toNat * 6)).items < 0
     ·simp only [decide_eq_true ht, _root_.cond_true]; rfl
     ·simp only [decide_eq_false ht, _root_.cond_false, _root_.cond_true, Bool.not_true, Bool.true_and, Bool.false_or, z.2 (by omega)]
      cases decide ((p.cell 96).toI < 0) with
      | true => rfl
      | false =>
       simp only [_root_.cond_false]
       cases ((data.length : Int) != szL (p.cell (3 + slot.toNat * 6)).items - 4) <;> rfl
end
end Go.Proofs.YthifhnmfecjjcaaGreatDoor

namespace Go.Proofs.YthifhnmfecjjcaaGreatDoor
open Go Go.AM
set_option maxRecDepth 100000
set_option maxHeartbeats 4000000
variable {N : Nat}
structure EntOk (kind slot off : Int) (ds data : List D) (known : Bool) (size time last : Int) : Prop where
 k : 1 ≤ kind ∧ kind ≤ 3
 s : inB slot 16 = true ∧ slot.toNat < 16
 d : kind = 1 → ds.length = 1 ∧ defE ((ds.getD 0 (.i 0)).cell 1).toI ((ds.getD 0 (.i 0)).cell 2).items = 0
 n : kind ≠ 1 → known = true ∧ ds.length = 0
 h : kind = 3 → 0 ≤ time ∧ 0 ≤ last ∧ 0 ≤ off ∧ off ≤ 31 ∧ (data.length : Int) = size - 4
 t : kind = 2 → (data.length : Int) = size
section
variable {kind slot off : Int} {ds data : List D} {p s : D} {k : Int}
theorem entE_ok {known : Bool} {size time last : Int} (h : entE kind slot off ds data known size time last = 0) : EntOk kind slot off ds data known size time last := by
 unfold entE at h
 cases h1 : inI kind 1 3 with
 | false => rw [h1] at h; exact absurd (show (7 : Int) = 0 from h) (by decide)
 | true =>
 cases h2 : inI slot 0 (bif kind == 3 then 3 else 15) with
 | false => rw [h1, h2] at h; exact absurd (show (9 : Int) = 0 from h) (by decide)
 | true =>
 cases h3 : inI off 0 (bif kind == 3 then 31 else 0) with
 | false => rw [h1, h2, h3] at h; exact absurd (show (9 : Int) = 0 from h) (by decide)
 | true =>
 rw [h1, h2, h3] at h
 simp only [Bool.not_true, _root_.cond_false, Bool.or_self] at h
 have hkr : 1 ≤ kind ∧ kind ≤ 3 := by unfold inI at h1; simpa using h1
 by_cases hk : kind = 1
 ·subst hk
  simp only [beq_self_eq_true, _root_.cond_true] at h
  cases h4 : ((ds.length : Int) != 1) || decide ((data.length : Int) > 0) with
  | true => rw [h4] at h; exact absurd (show (2 : Int) = 0 from h) (by decide)
  | false =>
   rw [h4] at h
   simp only [Bool.or_eq_false_iff, bne_eq_false_iff_eq] at h4
   exact ⟨hkr, slot_in h2, fun _ => ⟨by omega, h⟩, fun hn => absurd rfl hn, fun h => by omega, fun h => by omega⟩
 ·have hk1 : (kind == 1) = false := by simpa using hk
  rw [hk1] at h
  simp only [_root_.cond_false] at h
  cases h4 : ((ds.length : Int) != 0) with
  | true => rw [h4] at h; exact absurd (show (2 : Int) = 0 from h) (by decide)
  | false =>
  rw [h4] at h
  simp only [_root_.cond_false] at h
  cases h5 : !known || ((kind == 3) && (decide (time < 0) || decide (last < 0))) with
  | true => rw [h5] at h; exact absurd (show (11 : Int) = 0 from h) (by decide)
  | false =>
  rw [h5] at h
  simp only [_root_.cond_false] at h
  cases h6 : ((data.length : Int) != (bif kind == 3 then size - 4 else size)) with
  | true => rw [h6] at h; exact absurd (show (2 : Int) = 0 from h) (by decide)
  | false =>
  simp only [bne_eq_false_iff_eq] at h4 h6
  simp only [Bool.or_eq_false_iff, Bool.not_eq_false'] at h5
  refine ⟨hkr, slot_in h2, fun h => absurd h hk, fun _ => ⟨h5.1, by omega⟩, fun h3' => ?_, fun h2' => ?_⟩
  ·subst h3'
   simp at h3 h5 h6
   unfold inI at h3
   simp at h3
   omega
  ·subst h2'
   simpa using h6
theorem put6 {a : Nat} {x0 x1 x2 x3 x4 x5 : D} (j : Nat) : let q := (((((p.put (0 + a * 6) x0).put (1 + a * 6) x1).put (2 + a * 6) x2).put (3 + a * 6) x3).put (4 + a * 6) x4).put (5 + a * 6) x5
  q.cell (0 + j * 6) = (if j = a then x0 else p.cell (0 + j * 6)) ∧ q.cell (1 + j * 6) = (if j = a then x1 else p.cell (1 + j * 6)) ∧ q.cell (2 + j * 6) = (if j = a then x2 else p.cell (2 + j * 6)) ∧
  q.cell (3 + j * 6) = (if j = a then x3 else p.cell (3 + j * 6)) ∧ q.cell (4 + j * 6) = (if j = a then x4 else p.cell (4 + j * 6)) ∧ q.cell (5 + j * 6) = (if j = a then x5 else p.cell (5 + j * 6)) := by
 simp only [cell_put]
 by_cases h : j = a
 ·subst h
  simp
 ·simp only [if_neg h]
  refine ⟨?_, ?_, ?_, ?_, ?_, ?_⟩ <;> rw [if_neg (by omega), if_neg (by omega), if_neg (by omega), if_neg (by omega), if_neg (by omega), if_neg (by omega)]
theorem put6_last {a : Nat} {x0 x1 x2 x3 x4 x5 : D} (ha : a < 16) : ((((((p.put (0 + a * 6) x0).put (1 + a * 6) x1).put (2 + a * 6) x2).put (3 + a * 6) x3).put (4 + a * 6) x4).put (5 + a * 6) x5).cell 96 = p.cell 96 := by
 simp only [cell_put]
 rw [if_neg (by omega), if_neg (by omega), if_neg (by omega), if_neg (by omega), if_neg (by omega), if_neg (by omega)]
theorem put4 {a : Nat} {x0 x1 x2 x3 : D} (ha : a < 16) (j : Nat) (hj : j < 16) : let q := (((s.put (0 + a * 1) x0).put (16 + a * 3) x1).put (17 + a * 3) x2).put (18 + a * 3) x3
  q.cell (0 + j * 1) = (if j = a then x0 else s.cell (0 + j * 1)) ∧ q.cell (16 + j * 3) = (if j = a then x1 else s.cell (16 + j * 3)) ∧ q.cell (17 + j * 3) = (if j = a then x2 else s.cell (17 + j * 3)) ∧
  q.cell (18 + j * 3) = (if j = a then x3 else s.cell (18 + j * 3)) ∧ q.cell 64 = s.cell 64 := by
 simp only [cell_put]
 refine ⟨?_, ?_, ?_, ?_, ?_⟩
 ·rw [if_neg (by omega), if_neg (by omega), if_neg (by omega)]
  by_cases h : j = a
  ·rw [if_pos (by omega), if_pos h]
  ·rw [if_neg (by omega), if_neg h]
 ·rw [if_neg (by omega), if_neg (by omega)]
  by_cases h : j = a
  ·rw [if_pos (by omega), if_pos h]
  ·rw [if_neg (by omega), if_neg (by omega), if_neg h]
 ·rw [if_neg (by omega)]
  by_cases h : j = a
  ·rw [if_pos (by omega), if_pos h]
  ·rw [if_neg (by omega), if_neg (by omega), if_neg (by omega), if_neg h]
 ·by_cases h : j = a
  ·rw [if_pos (by omega), if_pos h]
  ·rw [if_neg (by omega), if_neg (by omega), if_neg (by omega), if_neg (by omega), if_neg h]
 ·rw [if_neg (by omega), if_neg (by omega), if_neg (by omega), if_neg (by omega)]
theorem slots_put (hs : Slots p s) {a : Nat} (i2 : a < 16) {arch : Bool} {g : Int} {nl nl2 : Bool} {fs : List D} (hf : FldsOk fs) :
  Slots ((((((p.put (0 + a * 6) (.b true)).put (1 + a * 6) (.b arch)).put (2 + a * 6) (.i g)).put (3 + a * 6) (.l nl fs)).put (4 + a * 6) (.i (szL fs))).put (5 + a * 6) (.i (tmL 0 fs)))
   ((((s.put (0 + a * 1) (.b true)).put (16 + a * 3) (.b arch)).put (17 + a * 3) (.i g)).put (18 + a * 3) (.l nl2 fs)) := by
 refine ⟨fun j hj => ?_, fun j hj hkn => ?_⟩
 ·rw [(put6 j).1, (put4 i2 j hj).1]
  by_cases h : j = a
  ·rw [if_pos h, if_pos h]
  ·rw [if_neg h, if_neg h]; exact hs.known j hj
 ·obtain ⟨a0, a1, a2, a3, a4, a5⟩ := put6 (p := p) (a := a) (x0 := .b true) (x1 := .b arch) (x2 := .i g) (x3 := .l nl fs) (x4 := .i (szL fs)) (x5 := .i (tmL 0 fs)) j
  obtain ⟨b0, b1, b2, b3, _⟩ := put4 (s := s) (x0 := .b true) (x1 := .b arch) (x2 := .i g) (x3 := .l nl2 fs) i2 j hj
  rw [a0] at hkn
  rw [a1, a2, a3, a4, a5, b1, b2, b3]
  by_cases h : j = a
  ·simp only [if_pos h]
   refine ⟨hf, ?_, ?_, ?_, ?_, ?_⟩ <;> first | trivial | rfl
  ·simp only [if_neg h] at hkn ⊢
   exact hs.defs j hj hkn
theorem Sim.last' (h : Sim p s k) {t : Int} (h0 : -1 ≤ t) (h1 : t ≤ 4294967295 + 32 * (k + 1)) : Sim (p.put 96 (.i t)) (s.put 64 (.i t)) (k + 1) := by
 have c1 : ∀ c j : Nat, c < 6 → j < 16 → (p.put 96 (.i t)).cell (c + j * 6) = p.cell (c + j * 6) := fun c j hc hj => by rw [cell_put, if_neg (by omega)]
 have c2 : ∀ j : Nat, j < 16 → (s.put 64 (.i t)).cell (0 + j * 1) = s.cell (0 + j * 1) ∧ (s.put 64 (.i t)).cell (16 + j * 3) = s.cell (16 + j * 3) ∧ (s.put 64 (.i t)).cell (17 + j * 3) = s.cell (17 + j * 3) ∧ (s.put 64 (.i t)).cell (18 + j * 3) = s.cell (18 + j * 3) := fun j hj => by
  refine ⟨?_, ?_, ?_, ?_⟩ <;> rw [cell_put, if_neg (by omega)]
 refine ⟨⟨fun j hj => ?_, fun j hj hk => ?_⟩, ?_, ?_, ?_⟩
 ·rw [c1 0 j (by omega) hj, (c2 j hj).1]; exact h.known j hj
 ·rw [c1 0 j (by omega) hj] at hk
  rw [c1 1 j (by omega) hj, c1 2 j (by omega) hj, c1 3 j (by omega) hj, c1 4 j (by omega) hj, c1 5 j (by omega) hj, (c2 j hj).2.1, (c2 j hj).2.2.1, (c2 j hj).2.2.2]
  exact h.defs j hj hk
 ·simp [cell_put, D.toI]
 ·simpa [cell_put, D.toI] using h0
 ·simpa [cell_put, D.toI] using h1
theorem Slots.last (h : Slots p s) {x : D} : Slots p (s.put 64 x) := by
 have c2 : ∀ j : Nat, j < 16 → (s.put 64 x).cell (0 + j * 1) = s.cell (0 + j * 1) ∧ (s.put 64 x).cell (16 + j * 3) = s.cell (16 + j * 3) ∧ (s.put 64 x).cell (17 + j * 3) = s.cell (17 + j * 3) ∧ (s.put 64 x).cell (18 + j * 3) = s.cell (18 + j * 3) := fun j hj => by
  refine ⟨?_, ?_, ?_, ?_⟩ <;> rw [cell_put, if_neg (by omega)]
 refine ⟨fun j hj => ?_, fun j hj hk => ?_⟩
 ·rw [(c2 j hj).1]; exact h.known j hj
 ·rw [(c2 j hj).2.1, (c2 j hj).2.2.1, (c2 j hj).2.2.2]
  exact h.defs j hj hk
theorem Sim.more (h : Sim p s k) : Sim p s (k + 1) := ⟨h.toSlots, h.last, h.lo, by have := h.hi; omega⟩
theorem slice_ok {t : Int} (h0 : 0 ≤ t) (h1 : t + 4 ≤ data.length) (hl : data.length ≤ maxLen) (hb : BytesOk data) : IntKind.wrap .i64 (t + 4) = t + 4 ∧ ((data.take (t + 4).toNat).drop t.toNat).length = 4 ∧ BytesOk ((data.take (t + 4).toNat).drop t.toNat) := by
 have hm : maxLen = 9223372036854775807 := rfl
 exact ⟨wrapI (by omega) (by omega), by simp; omega, fun x hx => hb x (List.mem_of_mem_take (List.mem_of_mem_drop hx))⟩
theorem take_sim (hN : maxLen < N) (hs : Sim p s k) (he : EntL ds data) (h0 : 0 ≤ k) (h1 : k ≤ 100000) (hE : EntOk kind slot off ds data (p.cell (0 + slot.toNat * 6)).toB (p.cell (4 + slot.toNat * 6)).toI (p.cell (5 + slot.toNat * 6)).toI (p.cell 96).toI) :
  ∃ t p' s', G36x0 N kind slot off ds data p = some (t, p') ∧ G41x0 N kind slot off ds data s = some (t, s') ∧ Sim p' s' (k + 1) ∧ -1 ≤ t ∧ t ≤ 4294967295 + 32 * (k + 1) ∧ (kind ≠ 1 → ∀ q, Slots q s → Slots q s') := by
 have hm : maxLen = 9223372036854775807 := rfl
 obtain ⟨i1, i2⟩ := hE.s
 unfold G36x0 F36x0 G36x0x15014 F36x0x15014 G41x0 F41x0
 rw [i1]
 by_cases hk1 : kind = 1
 ·subst hk1
  obtain ⟨d1, d2⟩ := hE.d rfl
  have hf := defE_ok d2
  have q1 := G63x0_eq hN hf
  simp only [beq_self_eq_true, _root_.cond_true, inB_of (i := 0) (n := ds.length) (by omega) (by omega), bnd_eq, q1, Option.isSome_some, getD_some]
  have e1 : decide ((-1 : Int) ≥ 0) = false := by decide
  rw [e1]
  refine ⟨_, _, _, rfl, rfl, ?_, by omega, by omega, fun h => absurd rfl h⟩
  show Sim ((((((p.put (0 + slot.toNat * 6) (.b true)).put (1 + slot.toNat * 6) (.b ((ds.getD 0 (.i 0)).cell 0).toB)).put (2 + slot.toNat * 6) (.i ((ds.getD 0 (.i 0)).cell 1).toI)).put (3 + slot.toNat * 6) (.l ((ds.getD 0 (.i 0)).cell 2).isNil ((ds.getD 0 (.i 0)).cell 2).items)).put (4 + slot.toNat * 6) (.i (szL ((ds.getD 0 (.i 0)).cell 2).items))).put (5 + slot.toNat * 6) (.i (tmL 0 ((ds.getD 0 (.i 0)).cell 2).items))) _ (k + 1)
  refine ⟨slots_put hs.toSlots i2 hf, ?_, ?_, ?_⟩
  ·rw [put6_last i2, (put4 i2 0 (by omega)).2.2.2.2]; exact hs.last
  ·rw [put6_last i2]; exact hs.lo
  ·rw [put6_last i2]; have := hs.hi; omega
 ·have hk1' : (kind == 1) = false := by simpa using hk1
  obtain ⟨kn, _⟩ := hE.n hk1
  obtain ⟨d1, d2, d3, d4, d5, d6⟩ := hs.defs _ i2 kn
  unfold G36x0x21020 F36x0x21020
  rw [hk1']
  simp only [_root_.cond_false, bnd_eq, ← hs.last, ← d4, ← d2]
  have hlo := hs.lo
  have hhi := hs.hi
  by_cases hk3 : kind = 3
  ·subst hk3
   obtain ⟨t0, l0, o0, o1, _⟩ := hE.h rfl
   have m0 : (p.cell 96).toI.tmod 32 = (p.cell 96).toI % 32 := Int.tmod_eq_emod_of_nonneg l0
   have w1 : IntKind.wrap .i64 (off - (p.cell 96).toI.tmod 32) = off - (p.cell 96).toI.tmod 32 := wrapI (by omega) (by omega)
   have w2 : IntKind.wrap .i64 (off - (p.cell 96).toI.tmod 32 + 32) = off - (p.cell 96).toI.tmod 32 + 32 := wrapI (by omega) (by omega)
   have m1 : (off - (p.cell 96).toI.tmod 32 + 32).tmod 32 = (off - (p.cell 96).toI.tmod 32 + 32) % 32 := Int.tmod_eq_emod_of_nonneg (by omega)
   have w3 : IntKind.wrap .i64 ((p.cell 96).toI + (off - (p.cell 96).toI.tmod 32 + 32).tmod 32) = (p.cell 96).toI + (off - (p.cell 96).toI.tmod 32 + 32).tmod 32 := wrapI (by omega) (by omega)
   simp only [beq_self_eq_true, _root_.cond_true, w1, w2, w3, Option.isSome_some, getD_some, V36x0x38, F36x0x38]
   rw [decide_eq_true (by omega)]
   refine ⟨_, _, _, rfl, ?_, hs.last' (t := (p.cell 96).toI + (off - (p.cell 96).toI.tmod 32 + 32).tmod 32) (by omega) (by omega), by omega, by omega, fun _ q hq => hq.last⟩
   rw [cell_put, if_pos rfl]
   rfl
  ·have hk2 : kind = 2 := by have := hE.k; omega
   subst hk2
   have hlen := hE.t rfl
   unfold G36x0x26 F36x0x26
   rw [d6, G68x0_eq hN d1]
   have tb := tmL_bound (a := 0) (by omega) d1.size
   by_cases ht : tmL 0 (p.cell (3 + slot.toNat * 6)).items < 0
   ·rw [decide_eq_true ht, decide_eq_false (by omega : ¬ tmL 0 (p.cell (3 + slot.toNat * 6)).items ≥ 0)]
    have e1 : decide ((-1 : Int) ≥ 0) = false := by decide
    refine ⟨-1, p, s, ?_, ?_, hs.more, by omega, by omega, fun _ q hq => hq⟩
    ·rfl
    ·rfl
   ·rw [decide_eq_false ht, decide_eq_true (by omega : tmL 0 (p.cell (3 + slot.toNat * 6)).items ≥ 0)]
    have h4 : tmL 0 (p.cell (3 + slot.toNat * 6)).items + 4 ≤ data.length := by rw [hlen, d5]; omega
    generalize tmL 0 (p.cell (3 + slot.toNat * 6)).items = tm at ht h4 ⊢
    obtain ⟨s1, s2, s3⟩ := slice_ok (by omega) h4 he.b he.y
    have nb := numB_bound s3 (p.cell (1 + slot.toNat * 6)).toB (by omega)
    have c0 : decide ((0 : Int) ≤ tm) = true := decide_eq_true (by omega)
    have c1 : decide (tm ≤ tm + 4) = true := decide_eq_true (by omega)
    have c2 : decide (tm + 4 ≤ (data.length : Int)) = true := decide_eq_true (by omega)
    have q1 := G64x0_eq hN s3 (p.cell (1 + slot.toNat * 6)).toB (by omega)
    have q2 := G71x0_eq hN s3 (p.cell (1 + slot.toNat * 6)).toB (by omega)
    have e3 : ((2 : Int) == 3) = false := by decide
    simp only [_root_.cond_true, _root_.cond_false, bnd_eq, Bool.and_self, s1, c0, c1, c2, q1, q2, missing4, Option.isSome_some, getD_some, V36x0x32, F36x0x32, Bool.not_true, e3, V36x0x38, F36x0x38]
    generalize numB ((data.take (tm + 4).toNat).drop tm.toNat) (p.cell (1 + slot.toNat * 6)).toB = n at nb ⊢
    by_cases hn : n = 4294967295
    ·subst hn
     exact ⟨-1, p, s, rfl, rfl, hs.more, by omega, by omega, fun _ q hq => hq⟩
    ·have e4 : (n != 4294967295) = true := by simpa using hn
     have e5 : (n == 4294967295) = false := by simpa using hn
     rw [e4, e5]
     simp only [_root_.cond_true, _root_.cond_false]
     rw [decide_eq_true (by omega)]
     exact ⟨n, _, _, rfl, rfl, hs.last' (by omega) (by omega), by omega, by omega, fun _ q hq => hq.last⟩
end
end Go.Proofs.YthifhnmfecjjcaaGreatDoor

namespace Go.Proofs.YthifhnmfecjjcaaGreatDoor
open Go Go.AM
set_option maxRecDepth 100000
set_option maxHeartbeats 4000000
variable {N : Nat}
def EntD (x : D) : Prop := EntL (x.cell 3).items (x.cell 4).items
def zeroS : D := .a (List.replicate 16 (.b false) ++ (List.replicate 16 [D.b false, D.i 0, D.l true []]).flatten ++ [.i (-1)])
theorem zero_slots (p : D) (hp : (List.range 16).all (fun j => !(p.cell (0 + j * 6)).toB && !(zeroS.cell (0 + j * 1)).toB) = true) : Slots p zeroS := by
 have h : ∀ j : Nat, j < 16 → (p.cell (0 + j * 6)).toB = false ∧ (zeroS.cell (0 + j * 1)).toB = false := fun j hj => by
  have := List.all_eq_true.1 hp j (List.mem_range.2 hj)
  simpa using this
 exact ⟨fun j hj => by rw [(h j hj).1, (h j hj).2], fun j hj hk => by rw [(h j hj).1] at hk; exact absurd hk (by decide)⟩
theorem zero70 : Sim (V34x0 N) zeroS 0 := ⟨zero_slots _ (by kernel_rfl), by kernel_rfl, by rw [show ((V34x0 N).cell 96).toI = -1 by kernel_rfl]; decide, by rw [show ((V34x0 N).cell 96).toI = -1 by kernel_rfl]; decide⟩
section
variable {es : List D}
theorem check_loop (hN : maxLen < N) (hes : ∀ x ∈ es, EntD x) (hl : es.length ≤ 50000) : ∀ (m : Nat) (i : Int) (p s : D), 0 ≤ i → i ≤ es.length → (es.length - i).toNat < m → Sim p s i →
  ∃ r : Sum Int Unit, L13x0x15 N es es.length m i p (fun p => some (.inl p)) (fun p => some (.inr p)) = some r ∧ L15x0x15 N es es.length m i s (fun p => some (.inl p)) (fun p => some (.inr p)) = some r ∧ (∀ e, r = .inl e → e ≠ 0) := by
 intro m
 induction m with
 | zero => intro i p s _ _ h; omega
 | succ m ih =>
  intro i p s h0 h1 hm hs
  unfold L13x0x15 L15x0x15 S13x0x15 S15x0x15
  by_cases hi : i < es.length
  ·have he : EntD _ := hes _ (getD_mem (fs := es) h0 hi)
   rw [decide_eq_true hi, inB_of h0 hi, G35x0_eq hN hs he, G40x0_eq hN hs he]
   simp only [_root_.cond_true, bnd_eq, Option.isSome_some, getD_some]
   generalize hE : entE ((es.getD i.toNat (.i 0)).cell 0).toI ((es.getD i.toNat (.i 0)).cell 1).toI ((es.getD i.toNat (.i 0)).cell 2).toI ((es.getD i.toNat (.i 0)).cell 3).items ((es.getD i.toNat (.i 0)).cell 4).items _ _ _ _ = e
   by_cases hz : e = 0
   ·subst hz
    obtain ⟨t, p', s', q1, q2, hs', _, _, _⟩ := take_sim hN hs he h0 (by omega) (entE_ok hE)
    have e0 : ((0 : Int) != 0) = false := by decide
    rw [e0, q1, q2]
    simp only [_root_.cond_false, Option.isSome_some, _root_.cond_true, getD_some, wrapI (x := i + 1) (by omega) (by omega)]
    exact ih (i + 1) p' s' (by omega) (by omega) (by omega) hs'
   ·have e0 : (e != 0) = true := by simpa using hz
    rw [e0]
    exact ⟨.inl e, rfl, rfl, fun e' h => by simp at h; subst h; exact hz⟩
  ·rw [decide_eq_false hi]
   exact ⟨.inr (), rfl, rfl, fun e' h => by simp at h⟩
theorem check_file (hN : maxLen < N) (hes : ∀ x ∈ es, EntD x) : ∃ c, G13x0 N es = some c ∧ G15x0 N es = some c := by
 by_cases hl : (es.length : Int) > 50000
 ·unfold G13x0 F13x0 G15x0 F15x0
  rw [decide_eq_true hl]; exact ⟨3, rfl, rfl⟩
 ·have hm : maxLen = 9223372036854775807 := rfl
  obtain ⟨r, q1, q2, _⟩ := check_loop hN hes (by omega) N 0 (V34x0 N) zeroS (by omega) (by omega) (by omega) zero70
  have k1 : G13x0x15 N es es.length 0 (V34x0 N) = some r := q1
  have k2 : G15x0x15 N es es.length 0 zeroS = some r := q2
  have k3 : G13x0 N es = bnd (G13x0x15 N es es.length 0 (V34x0 N)) (fun y1 => bif inlB y1 then some (inlV y1) else bif (inrQ y1).isSome then some 0 else none) := by
   unfold G13x0 F13x0
   rw [decide_eq_false hl]; rfl
  have k4 : G15x0 N es = bnd (G15x0x15 N es es.length 0 zeroS) (fun y1 => bif inlB y1 then some (inlV y1) else bif (inrQ y1).isSome then some 0 else none) := by
   unfold G15x0 F15x0
   rw [decide_eq_false hl]; rfl
  rw [k3, k4, k1, k2]
  cases r with
  | inl c => exact ⟨c, rfl, rfl⟩
  | inr u => exact ⟨0, rfl, rfl⟩
end
end Go.Proofs.YthifhnmfecjjcaaGreatDoor

namespace Go.Proofs.YthifhnmfecjjcaaGreatDoor
open Go Go.AM
set_option maxRecDepth 100000
set_option maxHeartbeats 4000000
set_option linter.unusedVariables false
variable {N : Nat}
section
variable {es : List D}
end
end Go.Proofs.YthifhnmfecjjcaaGreatDoor

namespace Go.Proofs.YthifhnmfecjjcaaGreatDoor
open Go Go.AM
set_option maxRecDepth 100000
set_option maxHeartbeats 4000000
set_option linter.unusedVariables false
variable {N : Nat}
section
variable {bs : List D}
theorem BytesOk.drop (hb : BytesOk bs) (a : Nat) : BytesOk (bs.drop a) := fun x hx => hb x (List.mem_of_mem_drop hx)
end
end Go.Proofs.YthifhnmfecjjcaaGreatDoor

namespace Go.Proofs.YthifhnmfecjjcaaGreatDoor
open Go Go.AM
set_option maxRecDepth 100000
set_option maxHeartbeats 4000000
set_option linter.unusedVariables false
variable {N : Nat}
section
variable {bs : List D}
end
end Go.Proofs.YthifhnmfecjjcaaGreatDoor

namespace Go.Proofs.YthifhnmfecjjcaaGreatDoor
open Go Go.AM
set_option maxRecDepth 100000
set_option maxHeartbeats 4000000
set_option linter.unusedVariables false
variable {N : Nat}
section
variable {bs : List D} {p s : D}
end
end Go.Proofs.YthifhnmfecjjcaaGreatDoor

namespace Go.Proofs.YthifhnmfecjjcaaGreatDoor
open Go Go.AM
set_option maxRecDepth 100000
set_option maxHeartbeats 4000000
set_option linter.unusedVariables false
variable {N : Nat}
section
variable {bs : List D} {p s : D}
end
end Go.Proofs.YthifhnmfecjjcaaGreatDoor

namespace Go.Proofs.YthifhnmfecjjcaaGreatDoor
open Go Go.AM
set_option maxRecDepth 100000
set_option maxHeartbeats 4000000
set_option linter.unusedVariables false
variable {N : Nat}
section
variable {bs : List D} {p s : D}
end
end Go.Proofs.YthifhnmfecjjcaaGreatDoor

namespace Go.Proofs.YthifhnmfecjjcaaGreatDoor
open Go Go.AM
set_option maxRecDepth 100000
set_option maxHeartbeats 4000000
set_option linter.unusedVariables false
variable {N : Nat}
section
variable {b : List D}
structure Lst (l : List D) : Prop where
 e : ∀ x ∈ l, EntD x
 n : l.length ≤ 10000000
end
end Go.Proofs.YthifhnmfecjjcaaGreatDoor

namespace Go.Proofs.YthifhnmfecjjcaaGreatDoor
open Go Go.AM
set_option maxRecDepth 100000
set_option maxHeartbeats 4000000
set_option linter.unusedVariables false
variable {N : Nat}
section
variable {b : List D}
end
end Go.Proofs.YthifhnmfecjjcaaGreatDoor

namespace Go.Proofs.YthifhnmfecjjcaaGreatDoor
open Go Go.AM
set_option maxRecDepth 100000
set_option maxHeartbeats 4000000
set_option linter.unusedVariables false
variable {N : Nat}
theorem zipAll_true : ∀ xs : List D, zipAll (fun _ _ => true) xs xs = true
 | [] => rfl
 | x :: r => by simp only [zipAll, Bool.true_and]; exact zipAll_true r
theorem inB_mem {xs : List D} {w : Int} (h : inB w xs.length = true) : xs.getD w.toNat (.i 0) ∈ xs := by
 unfold inB at h
 simp at h
 exact getD_mem h.1 h.2
theorem refl_ind {xs : List D} {S : Int → (Int → Option (Sum Unit Unit)) → Option (Sum Unit Unit)} {L : Nat → Int → Option (Sum Unit Unit)} (hL : ∀ m a, L (m + 1) a = S a (L m)) (hlen : xs.length ≤ maxLen)
  (hend : ∀ kr, S xs.length kr = some (.inr ()))
  (hstep : ∀ (w : Int) (kr : Int → Option (Sum Unit Unit)), decide (w < xs.length) = true → inB w xs.length = true → xs.getD w.toNat (.i 0) ∈ xs → S w kr = kr (IntKind.wrap .i64 (w + 1)))
  (hN : maxLen < N) : L N 0 = some (.inr ()) := by
 have := zip_ind (xs := xs) (ys := xs) (fun _ _ => true) hL hlen rfl hend (fun w kr h1 h2 _ => by rw [hstep w kr h1 h2 (inB_mem h2)]; rfl) hN
 rw [this, zipAll_true]
 rfl
section
variable {xs : List D}
theorem len_self (xs : List D) : ((xs.length : Int) != (xs.length : Int)) = false := by simp
theorem G140_refl (hN : maxLen < N) (hl : xs.length ≤ maxLen) : G72x0 N xs xs = some true := by
 have k : G72x0x12 N xs xs xs.length 0 = some (.inr ()) := by
  refine refl_ind (S := fun w kr => S72x0x12 N xs xs xs.length w kr _ _) (L := fun m w => L72x0x12 N xs xs xs.length m w _ _) (fun m w => rfl) hl (fun kr => by simp [S72x0x12]) (fun w kr h1 h2 h3 => ?_) hN
  unfold S72x0x12
  rw [h1, h2]
  simp [bnd_eq]
 unfold G72x0 F72x0
 rw [len_self, k]; rfl
theorem G25_refl (hN : maxLen < N) (hl : xs.length ≤ maxLen) : G44x0 N xs xs = some true := by
 have k : G44x0x12 N xs xs xs.length 0 = some (.inr ()) := by
  refine refl_ind (S := fun w kr => S44x0x12 N xs xs xs.length w kr _ _) (L := fun m w => L44x0x12 N xs xs xs.length m w _ _) (fun m w => rfl) hl (fun kr => by simp [S44x0x12]) (fun w kr h1 h2 h3 => ?_) hN
  unfold S44x0x12
  rw [h1, h2]
  simp [bnd_eq]
 unfold G44x0 F44x0
 rw [len_self, k]; rfl
theorem G104_refl (hN : maxLen < N) (hl : xs.length ≤ maxLen) (a : Bool) (g : Int) : G43x0 N a g xs a g xs = some true := by
 unfold G43x0 F43x0 G43x0x4 F43x0x4
 rw [G140_refl hN hl]
 simp [bnd_eq]
theorem G103_refl (hN : maxLen < N) (hl : xs.length ≤ maxLen) (hf : ∀ x ∈ xs, (x.cell 2).items.length ≤ maxLen) : G42x0 N xs xs = some true := by
 have k : G42x0x12 N xs xs xs.length 0 = some (.inr ()) := by
  refine refl_ind (S := fun w kr => S42x0x12 N xs xs xs.length w kr _ _) (L := fun m w => L42x0x12 N xs xs xs.length m w _ _) (fun m w => rfl) hl (fun kr => by simp [S42x0x12]) (fun w kr h1 h2 h3 => ?_) hN
  unfold S42x0x12
  rw [h1, h2, G104_refl hN (hf _ h3)]
  simp [bnd_eq]
 unfold G42x0 F42x0
 rw [len_self, k]; rfl
theorem G48_refl (hN : maxLen < N) {ds data : List D} (h : EntL ds data) (a b c : Int) : G17x0 N a b c ds data a b c ds data = some true := by
 unfold G17x0 F17x0 G17x0x4 F17x0x4
 rw [G103_refl hN h.d h.f, G25_refl hN h.b]
 simp [bnd_eq]
theorem G77_refl (hN : maxLen < N) (h : Lst xs) : G16x0 N xs xs = some true := by
 have hm : maxLen = 9223372036854775807 := rfl
 have hn := h.n
 have hl : xs.length ≤ maxLen := by omega
 have k : G16x0x12 N xs xs xs.length 0 = some (.inr ()) := by
  refine refl_ind (S := fun w kr => S16x0x12 N xs xs xs.length w kr _ _) (L := fun m w => L16x0x12 N xs xs xs.length m w _ _) (fun m w => rfl) hl (fun kr => by simp [S16x0x12]) (fun w kr h1 h2 h3 => ?_) hN
  unfold S16x0x12
  rw [h1, h2, G48_refl hN (h.e _ h3)]
  simp [bnd_eq]
 unfold G16x0 F16x0
 rw [len_self, k]; rfl
theorem G28_refl (hN : maxLen < N) (h : Lst xs) : G7x0 N xs xs = some true := by
 unfold G7x0 F7x0
 rw [G77_refl hN h]; rfl
end
end Go.Proofs.YthifhnmfecjjcaaGreatDoor

namespace Go.Proofs.YthifhnmfecjjcaaGreatDoor
open Go Go.AM
set_option maxRecDepth 100000
set_option maxHeartbeats 4000000
variable {N : Nat}
theorem i64_atoi {l : List UInt8} (h : atoiOk l = true) : i64B (atoiV l) = true := by
 unfold atoiOk at h
 unfold atoiV
 cases ha : Lib.atoiAll l with
 | range => rw [ha] at h; cases h
 | ok v =>
  simp only
  unfold Lib.atoiAll at ha
  cases l with
  | nil => cases ha
  | cons c r =>
   simp only at ha
   split at ha
   ·cases ha
   ·cases ha
   ·rename_i u _
    unfold i64B
    split at ha
    ·cases ha
    ·split at ha
     ·cases ha
     ·cases ha
      rw [Bool.and_eq_true, decide_eq_true_eq, decide_eq_true_eq]
      split <;> omega
 | _ => rw [ha] at h; cases h
def rnB (v : List UInt8) : Bool := wholeL v && decide (v.length ≤ 9)
theorem whole_pos {v : List UInt8} (h : wholeL v = true) : isNeg v = false ∧ unsign v = v := by
 obtain ⟨c, r, rfl, hc⟩ := wholeL_head h
 have hc' := isDig_iff.1 hc
 rcases unsign_cases (c :: r) with ⟨_, q2⟩ | q
 ·simp only [List.cons.injEq] at q2
  rw [q2.1] at hc'
  exact absurd hc'.1 (by decide)
 ·exact q
theorem rn_num {v : List UInt8} (h : rnB v = true) : Go.AM.numB 9 v = true ∧ numV v = digV 0 v := by
 unfold rnB at h
 rw [Bool.and_eq_true] at h
 obtain ⟨h1, h2⟩ := whole_pos h.1
 unfold Go.AM.numB numV
 rw [h1, h2, h.1, h.2]
 exact ⟨rfl, rfl⟩
theorem rn_val {v : List UInt8} (h : rnB v = true) : atoiV v = digV 0 v := (num_val (k := 9) (by decide) (rn_num h).1).trans (rn_num h).2
theorem rn_key (v : List UInt8) : (bif (bif (bif atoiOk v then decide ((v.length : Int) ≤ 9) else false) then decide (atoiV v ≥ 0) else false) then (Lib.itoa (atoiV v) == v) else false) = rnB v := by
 have hd : decide ((v.length : Int) ≤ 9) = decide (v.length ≤ 9) := by rw [Bool.eq_iff_iff]; simp only [decide_eq_true_eq]; omega
 rw [hd, Bool.eq_iff_iff]
 constructor
 ·intro h
  cases h1 : atoiOk v with
  | false => rw [h1] at h; cases h
  | true =>
  cases h2 : decide (v.length ≤ 9) with
  | false => rw [h1, h2] at h; cases h
  | true =>
  cases h3 : decide (atoiV v ≥ 0) with
  | false => rw [h1, h2, h3] at h; cases h
  | true =>
  rw [h1, h2, h3] at h
  have h4 : (Lib.itoa (atoiV v) == v) = true := h
  have hl : (unsign v).length ≤ 9 := by
   have := of_decide_eq_true h2
   rcases unsign_cases v with ⟨_, q⟩ | ⟨_, q⟩
   ·have := congrArg List.length q; simp at this; omega
   ·rw [q]; omega
  have hn : Go.AM.numB 9 v = true := by
   rw [← num_iff (k := 9) (by decide), h1, h4, decide_eq_true hl]; rfl
  have hv := num_val (k := 9) (by decide) hn
  have h0 := of_decide_eq_true h3
  rw [hv] at h0
  unfold Go.AM.numB at hn
  simp only [Bool.and_eq_true, decide_eq_true_eq, Bool.not_eq_true', Bool.and_eq_false_imp, decide_eq_false_iff_not] at hn
  unfold numV at h0
  rcases unsign_cases v with ⟨q1, _⟩ | ⟨q1, q⟩
  ·rw [q1] at h0
   have := hn.2 q1
   simp only [_root_.cond_true] at h0
   omega
  ·unfold rnB
   rw [h2, Bool.and_true, ← q]
   exact hn.1.1
 ·intro h
  obtain ⟨hn, _⟩ := rn_num h
  have hv := rn_val h
  have hk := (num_iff (k := 9) (by decide) v).trans hn
  rw [Bool.and_eq_true, Bool.and_eq_true] at hk
  unfold rnB at h
  rw [Bool.and_eq_true] at h
  rw [hk.1.1, h.2, decide_eq_true (by omega : atoiV v ≥ 0)]
  exact hk.2
theorem G31x1_eq (v : List UInt8) (hv : v.length ≤ 281474976710656) (b : Bool) : G31x1 N v b = some (atoiV v, b && rnB v) := by
 have hb : Nat.ble v.length 281474976710656 = true := by rw [Nat.ble_eq]; exact hv
 have hn := rn_key v
 unfold G31x1 F31x1 G31x1x7 F31x1x7
 rw [hb, ← hn]
 cases b with
 | false => rfl
 | true =>
  cases ha : atoiOk v with
  | false => rfl
  | true =>
   cases decide ((v.length : Int) ≤ 9) with
   | false => rfl
   | true =>
    cases decide (atoiV v ≥ 0) with
    | false => rfl
    | true => rw [i64_atoi ha]; rfl
theorem dig_cond (n : Int) : (bif decide (n < 48) then true else decide (n > 57)) = !(decide (48 ≤ n) && decide (n ≤ 57)) := by
 by_cases h1 : n < 48
 ·rw [decide_eq_true h1, decide_eq_false (by omega : ¬ 48 ≤ n)]; rfl
 ·rw [decide_eq_false h1, decide_eq_true (by omega : 48 ≤ n)]
  by_cases h2 : n ≤ 57
  ·rw [decide_eq_true h2, decide_eq_false (by omega)]; rfl
  ·rw [decide_eq_false h2, decide_eq_true (by omega)]; rfl
theorem at_dropU {xs r : List UInt8} {p : UInt8} {i : Nat} (h : xs.drop i = p :: r) : i < xs.length ∧ xs.getD i 0 = p ∧ xs.drop (i + 1) = r := by
 have hl := congrArg List.length h
 rw [List.length_drop, List.length_cons] at hl
 have hi : i < xs.length := by omega
 rw [List.drop_eq_getElem_cons hi] at h
 injection h with h1 h2
 exact ⟨hi, by rw [List.getD_eq_getElem?_getD, List.getElem?_eq_getElem hi]; exact h1, h2⟩
theorem whole_loop {u : List UInt8} (hu : u.length ≤ 9) : ∀ (r : List UInt8) (i m acc : Nat), u.drop i = r → i ≤ u.length → r.length < m → (acc + 1) * 10 ^ r.length ≤ 1000000000 →
  L37x0x15 N (R := Sum Unit Int) u m (acc : Int) (i : Int) (fun p => some (.inl p)) (fun p => some (.inr p)) = some (bif r.all isDig then .inr (digV acc r : Int) else .inl ())
 | _, _, 0, _, _, _, hm, _ => by omega
 | [], i, m + 1, acc, hd, hi, _, _ => by
  have hl := congrArg List.length hd
  simp at hl
  have : ¬ (i : Int) < (u.length : Int) := by omega
  simp only [L37x0x15, S37x0x15, decide_eq_false this, _root_.cond_false, digV_nil]
  rfl
 | c :: r, i, m + 1, acc, hd, hi0, hm, hp => by
  obtain ⟨hi, hc, hr⟩ := at_dropU hd
  have hlt : (i : Int) < (u.length : Int) := by omega
  have hin : inB (i : Int) u.length = true := inB_of (by omega) (by omega)
  have hg : (u.getD (i : Int).toNat 0) = c := by rw [Int.toNat_natCast]; exact hc
  have hw2 : IntKind.wrap .i64 ((i : Int) + 1) = ((i + 1 : Nat) : Int) := wrapI (by omega) (by omega)
  have h10 : (acc + 1) * 10 * 10 ^ r.length ≤ 1000000000 := by
   rw [List.length_cons, Nat.pow_succ, Nat.mul_comm (10 ^ r.length) 10, ← Nat.mul_assoc] at hp
   exact hp
  have hpos : 1 ≤ 10 ^ r.length := Nat.one_le_pow _ _ (by decide)
  have hb : (acc + 1) * 10 ≤ 1000000000 := Nat.le_trans (Nat.le_mul_of_pos_right _ hpos) h10
  simp only [L37x0x15, S37x0x15, decide_eq_true hlt, _root_.cond_true, hin, bnd_eq, hg, hw2, dig_cond, List.all_cons]
  have hdig : (decide ((48 : Int) ≤ (c.toNat : Int)) && decide ((c.toNat : Int) ≤ 57)) = isDig c := by
   unfold isDig
   rw [Bool.eq_iff_iff]; simp only [Bool.and_eq_true, decide_eq_true_eq]; omega
  rw [hdig]
  cases hcd : isDig c with
  | false => rfl
  | true =>
   have hcc := isDig_iff.1 hcd
   have e1 : IntKind.wrap .i64 (IntKind.wrap .u8 ((c.toNat : Int) - 48)) = ((c.toNat - 48 : Nat) : Int) := by
    have : IntKind.wrap .u8 ((c.toNat : Int) - 48) = (c.toNat : Int) - 48 := by rw [IntKind.wrap_u8]; omega
    rw [this]
    exact (wrapI (by omega) (by omega)).trans (by omega)
   have e2 : IntKind.wrap .i64 (IntKind.wrap .i64 (10 * (acc : Int)) + ((c.toNat - 48 : Nat) : Int)) = ((acc * 10 + (c.toNat - 48) : Nat) : Int) := by
    rw [wrapI (x := 10 * (acc : Int)) (by omega) (by omega)]
    exact (wrapI (by omega) (by omega)).trans (by omega)
   rw [e1, e2]
   simp only [Bool.not_true, _root_.cond_false, Bool.true_and]
   have := whole_loop hu r (i + 1) m (acc * 10 + (c.toNat - 48)) hr (by omega) (by simp at hm; omega) (Nat.le_trans (Nat.mul_le_mul_right _ (by omega)) h10)
   rw [this, digV_cons]
theorem G37x0_eq (hN : maxLen < N) (u : List UInt8) : G37x0 N u = some (bif rnB u then ((digV 0 u : Int), true) else (0, false)) := by
 have hM : maxLen = 9223372036854775807 := rfl
 unfold G37x0 F37x0 rnB
 cases u with
 | nil => rfl
 | cons c r =>
  have hin : inB 0 (c :: r).length = true := inB_of (by omega) (by simp)
  have hne : ((c :: r) == ([] : List UInt8)) = false := rfl
  rw [hin, hne]
  simp only [_root_.cond_true, _root_.cond_false, bnd_eq]
  by_cases h9 : (c :: r).length ≤ 9
  ·rw [decide_eq_false (by omega : ¬ ((c :: r).length : Int) > 9), decide_eq_true h9]
   simp only [_root_.cond_false, Bool.and_true]
   have hl := whole_loop (N := N) h9 (c :: r) 0 N 0 rfl (by omega) (by omega) (by
    have : 10 ^ (c :: r).length ≤ 10 ^ 9 := Nat.pow_le_pow_right (by decide) h9
    omega)
   have hl : G37x0x15 N (c :: r) 0 0 = some (bif (c :: r).all isDig then .inr (digV 0 (c :: r) : Int) else .inl ()) := hl
   rw [hl]
   have hh : (bif ((((c :: r).getD 0 0).toNat : Int) == 48) then (!((c :: r) == ([48] : List UInt8))) else false) = !(decide ((c :: r).length = 1) || decide ((c :: r).head? ≠ some 48)) := by
    show (bif ((c.toNat : Int) == 48) then (!((c :: r) == ([48] : List UInt8))) else false) = !(decide ((c :: r).length = 1) || decide (some c ≠ some 48))
    by_cases hc : c = 48
    ·subst hc
     cases r with
     | nil => rfl
     | cons d r => simp
    ·have hc' : ((c.toNat : Int) == 48) = false := by
      rw [beq_eq_false_iff_ne]
      intro e
      have h48 : c.toNat = (48 : UInt8).toNat := by show c.toNat = 48; omega
      exact hc (UInt8.toNat_inj.1 h48)
     rw [hc']
     simp [hc]
   rw [hh]
   have hw : wholeL (c :: r) = ((c :: r).all isDig && (decide ((c :: r).length = 1) || decide ((c :: r).head? ≠ some 48))) := by
    unfold wholeL
    rw [decide_eq_true (by simp : 1 ≤ (c :: r).length), Bool.and_true]
   rw [hw]
   cases (decide ((c :: r).length = 1) || decide ((c :: r).head? ≠ some 48)) <;> cases (c :: r).all isDig <;> rfl
  ·rw [decide_eq_true (by omega : ((c :: r).length : Int) > 9), decide_eq_false h9]
   simp only [_root_.cond_true, Bool.and_false, _root_.cond_false]
end Go.Proofs.YthifhnmfecjjcaaGreatDoor

namespace Go.Proofs.YthifhnmfecjjcaaGreatDoor
open Go Go.AM
set_option maxRecDepth 100000
set_option maxHeartbeats 4000000
set_option linter.unusedVariables false
variable {N : Nat}
def hexI (c : UInt8) : Int := Lib.indexByte [48, 49, 50, 51, 52, 53, 54, 55, 56, 57, 97, 98, 99, 100, 101, 102] c
def hx (a b : UInt8) : D := .i (IntKind.wrap .u8 (IntKind.wrap .i64 (IntKind.wrap .i64 (16 * hexI a) + hexI b)))
def hexP : List UInt8 → Option (List D)
 | a :: b :: r => bif (bif decide (hexI a < 0) then true else decide (hexI b < 0)) then none else (hexP r).map fun l => hx a b :: l
 | _ => some []
def hexD (v : List UInt8) : Option (Bool × List D) :=
 bif v == ([45] : List UInt8) then some (true, []) else bif decide (1 ≤ v.length) && decide (v.length % 2 = 0) then (hexP v).map fun xs => (xs.isEmpty, xs) else none
theorem V60x0_eq (c : UInt8) : V60x0 N (c.toNat : Int) = hexI c := by
 unfold V60x0 F60x0 V79x0 F79x0 hexI
 rw [bnd_eq, Int.toNat_natCast]
 rw [show c.toNat.toUInt8 = c from UInt8.ofNat_toNat]
theorem at_drop2 {xs r : List UInt8} {p q : UInt8} {i : Nat} (h : xs.drop i = p :: q :: r) : i + 1 < xs.length ∧ xs.getD i 0 = p ∧ xs.getD (i + 1) 0 = q ∧ xs.drop (i + 2) = r := by
 obtain ⟨h1, h2, h3⟩ := at_dropU h
 obtain ⟨h4, h5, h6⟩ := at_dropU h3
 exact ⟨h4, h2, h5, h6⟩
theorem roomOk {n k : Nat} (hn : n ≤ 100000000) (hk : k ≤ 100) : (decide ((n + 1) * k ≤ room) && decide (n + 1 ≤ strMax)) = true := by
 have : (n + 1) * k ≤ 100000001 * 100 := Nat.mul_le_mul (by omega) hk
 rw [decide_eq_true (by unfold room; omega), decide_eq_true (by unfold strMax; omega)]; rfl
theorem hex33 {u : List UInt8} (hu : u.length ≤ 10000000) : ∀ (n : Nat) (r : List UInt8) (i m : Nat) (fl : Bool) (acc : List D), r.length ≤ n → u.drop i = r → i ≤ u.length → acc.length ≤ i → r.length < m →
  (hexP r = none → ∃ p, L33x0x15 N (R := Sum (Bool × LD) (Bool × LD)) u m (i : Int) fl acc (fun p => some (.inl p)) (fun p => some (.inr p)) = some (.inl p)) ∧
  (∀ xs, hexP r = some xs → L33x0x15 N (R := Sum (Bool × LD) (Bool × LD)) u m (i : Int) fl acc (fun p => some (.inl p)) (fun p => some (.inr p)) = some (.inr (fl && xs.isEmpty, acc ++ xs))) := by
 intro n
 induction n with
 | zero =>
  intro r i m fl acc hn hd hi ha hm
  have : r = [] := List.eq_nil_of_length_eq_zero (by omega)
  subst this
  obtain ⟨m, rfl⟩ : ∃ k, m = k + 1 := ⟨m - 1, by simp at hm; omega⟩
  have hl := congrArg List.length hd
  simp at hl
  have hw : IntKind.wrap .i64 ((i : Int) + 1) = ((i + 1 : Nat) : Int) := wrapI (by omega) (by omega)
  have : ¬ ((i + 1 : Nat) : Int) < (u.length : Int) := by omega
  simp only [hexP, L33x0x15, S33x0x15, hw, decide_eq_false this, _root_.cond_false]
  exact ⟨fun h => (by cases h), fun xs h => (by cases h; simp)⟩
 | succ n ih =>
  intro r i m fl acc hn hd hi ha hm
  obtain ⟨m, rfl⟩ : ∃ k, m = k + 1 := ⟨m - 1, by omega⟩
  have hl := congrArg List.length hd
  simp at hl
  have hw : IntKind.wrap .i64 ((i : Int) + 1) = ((i + 1 : Nat) : Int) := wrapI (by omega) (by omega)
  match r, hd, hl, hn, hm with
  | [], _, hl, _, _ =>
   simp at hl
   have : ¬ ((i + 1 : Nat) : Int) < (u.length : Int) := by omega
   simp only [hexP, L33x0x15, S33x0x15, hw, decide_eq_false this, _root_.cond_false]
   exact ⟨fun h => (by cases h), fun xs h => (by cases h; simp)⟩
  | [a], _, hl, _, _ =>
   simp at hl
   have : ¬ ((i + 1 : Nat) : Int) < (u.length : Int) := by omega
   simp only [hexP, L33x0x15, S33x0x15, hw, decide_eq_false this, _root_.cond_false]
   exact ⟨fun h => (by cases h), fun xs h => (by cases h; simp)⟩
  | a :: b :: r, hd, hl, hn, hm =>
   obtain ⟨h1, h2, h3, h4⟩ := at_drop2 hd
   have hlt : ((i + 1 : Nat) : Int) < (u.length : Int) := by omega
   have hin : inB (i : Int) u.length = true := inB_of (by omega) (by omega)
   have hin2 : inB ((i + 1 : Nat) : Int) u.length = true := inB_of (by omega) (by omega)
   have hw2 : IntKind.wrap .i64 ((i : Int) + 2) = ((i + 2 : Nat) : Int) := wrapI (by omega) (by omega)
   have hroom := roomOk (n := acc.length) (k := 1) (by omega) (by omega)
   simp only [hexP, L33x0x15, S33x0x15, hw, hw2, decide_eq_true hlt, _root_.cond_true, hin, hin2, bnd_eq, Int.toNat_natCast, h2, h3, V60x0_eq, hroom]
   cases hbad : (bif decide (hexI a < 0) then true else decide (hexI b < 0)) with
   | true =>
    simp only [_root_.cond_true]
    exact ⟨fun _ => ⟨_, rfl⟩, fun xs h => (by cases h)⟩
   | false =>
    simp only [_root_.cond_false]
    have hi2 := ih r (i + 2) m false (acc ++ [hx a b]) (by simp at hn; omega) h4 (by omega) (by simp; omega) (by simp at hm; omega)
    have e : (acc ++ [hx a b]) = acc ++ [D.i (IntKind.wrap .u8 (IntKind.wrap .i64 (IntKind.wrap .i64 (16 * hexI a) + hexI b)))] := rfl
    rw [← e]
    cases hp : hexP r with
    | none => exact ⟨fun _ => hi2.1 hp, fun xs h => (by cases h)⟩
    | some ys =>
     refine ⟨fun h => (by cases h), fun xs h => ?_⟩
     simp only [Option.map_some, Option.some.injEq] at h
     subst h
     rw [hi2.2 ys hp]
     simp
theorem hex38 {u : List UInt8} (hu : u.length ≤ 10000000) : ∀ (n : Nat) (r : List UInt8) (i m : Nat) (fl : Bool) (acc : List D), r.length ≤ n → r.length % 2 = 0 → u.drop i = r → i ≤ u.length → acc.length ≤ i → r.length < m →
  (hexP r = none → ∃ p, L38x0x21 N (R := Sum (Bool × LD) (Bool × LD)) u m (i : Int) fl acc (fun p => some (.inl p)) (fun p => some (.inr p)) = some (.inl p)) ∧
  (∀ xs, hexP r = some xs → L38x0x21 N (R := Sum (Bool × LD) (Bool × LD)) u m (i : Int) fl acc (fun p => some (.inl p)) (fun p => some (.inr p)) = some (.inr (fl && xs.isEmpty, acc ++ xs))) := by
 intro n
 induction n with
 | zero =>
  intro r i m fl acc hn hev hd hi ha hm
  have : r = [] := List.eq_nil_of_length_eq_zero (by omega)
  subst this
  obtain ⟨m, rfl⟩ : ∃ k, m = k + 1 := ⟨m - 1, by simp at hm; omega⟩
  have hl := congrArg List.length hd
  simp at hl
  have : ¬ (i : Int) < (u.length : Int) := by omega
  simp only [hexP, L38x0x21, S38x0x21, decide_eq_false this, _root_.cond_false]
  exact ⟨fun h => (by cases h), fun xs h => (by cases h; simp)⟩
 | succ n ih =>
  intro r i m fl acc hn hev hd hi ha hm
  obtain ⟨m, rfl⟩ : ∃ k, m = k + 1 := ⟨m - 1, by omega⟩
  have hl := congrArg List.length hd
  simp at hl
  match r, hd, hl, hn, hm, hev with
  | [], _, hl, _, _, _ =>
   simp at hl
   have : ¬ (i : Int) < (u.length : Int) := by omega
   simp only [hexP, L38x0x21, S38x0x21, decide_eq_false this, _root_.cond_false]
   exact ⟨fun h => (by cases h), fun xs h => (by cases h; simp)⟩
  | [a], _, _, _, _, hev => simp at hev
  | a :: b :: r, hd, hl, hn, hm, hev =>
   obtain ⟨h1, h2, h3, h4⟩ := at_drop2 hd
   have hw : IntKind.wrap .i64 ((i : Int) + 1) = ((i + 1 : Nat) : Int) := wrapI (by omega) (by omega)
   have hlt : (i : Int) < (u.length : Int) := by omega
   have hin : inB (i : Int) u.length = true := inB_of (by omega) (by omega)
   have hin2 : inB ((i + 1 : Nat) : Int) u.length = true := inB_of (by omega) (by omega)
   have hw2 : IntKind.wrap .i64 ((i : Int) + 2) = ((i + 2 : Nat) : Int) := wrapI (by omega) (by omega)
   have hroom := roomOk (n := acc.length) (k := 1) (by omega) (by omega)
   simp only [hexP, L38x0x21, S38x0x21, hw, hw2, decide_eq_true hlt, _root_.cond_true, hin, hin2, bnd_eq, Int.toNat_natCast, h2, h3, V60x0_eq, hroom]
   cases hbad : (bif decide (hexI a < 0) then true else decide (hexI b < 0)) with
   | true =>
    simp only [_root_.cond_true]
    exact ⟨fun _ => ⟨_, rfl⟩, fun xs h => (by cases h)⟩
   | false =>
    simp only [_root_.cond_false]
    have hi2 := ih r (i + 2) m false (acc ++ [hx a b]) (by simp at hn; omega) (by simp at hev; omega) h4 (by omega) (by simp; omega) (by simp at hm; omega)
    have e : (acc ++ [hx a b]) = acc ++ [D.i (IntKind.wrap .u8 (IntKind.wrap .i64 (IntKind.wrap .i64 (16 * hexI a) + hexI b)))] := rfl
    rw [← e]
    cases hp : hexP r with
    | none => exact ⟨fun _ => hi2.1 hp, fun xs h => (by cases h)⟩
    | some ys =>
     refine ⟨fun h => (by cases h), fun xs h => ?_⟩
     simp only [Option.map_some, Option.some.injEq] at h
     subst h
     rw [hi2.2 ys hp]
     simp
theorem mod2 (n : Nat) : ((n : Int).tmod 2 == 0) = decide (n % 2 = 0) := by
 rw [Bool.eq_iff_iff, beq_iff_eq, decide_eq_true_eq, Int.tmod_eq_emod_of_nonneg (by omega)]; omega
theorem G33x0_eq (hN : maxLen < N) (v : List UInt8) (hv : v.length ≤ 10000000) : ∃ p : Bool × LD, G33x0 N v = some (p.1, p.2, (hexD v).isSome) ∧ ∀ q, hexD v = some q → p = q := by
 have hM : maxLen = 9223372036854775807 := rfl
 unfold G33x0 F33x0 hexD
 cases h0 : v == ([45] : List UInt8) with
 | true => exact ⟨(true, []), rfl, fun q hq => by cases hq; rfl⟩
 | false =>
  simp only [_root_.cond_false, mod2]
  have hl := hex33 (N := N) hv v.length v 0 N true [] (Nat.le_refl _) rfl (by omega) (by simp) (by omega)
  have hd : (bif decide ((v.length : Int) > 0) then decide (v.length % 2 = 0) else false) = (decide (1 ≤ v.length) && decide (v.length % 2 = 0)) := by
   rw [show decide ((v.length : Int) > 0) = decide (1 ≤ v.length) by rw [Bool.eq_iff_iff]; simp only [decide_eq_true_eq]; omega]
   cases decide (1 ≤ v.length) <;> rfl
  rw [hd]
  cases hp : hexP v with
  | none =>
   obtain ⟨p, q⟩ := hl.1 hp
   have q : G33x0x15 N v 0 true [] = some (.inl p) := q
   rw [q]
   refine ⟨(true, []), ?_, fun q hq => ?_⟩
   ·simp only [bnd_eq, Option.map_none]
    cases (decide (1 ≤ v.length) && decide (v.length % 2 = 0)) <;> rfl
   ·simp only [Option.map_none] at hq
    cases hc : (decide (1 ≤ v.length) && decide (v.length % 2 = 0)) <;> rw [hc] at hq <;> cases hq
  | some xs =>
   have q : G33x0x15 N v 0 true [] = some (.inr (true && xs.isEmpty, [] ++ xs)) := hl.2 xs hp
   rw [q]
   refine ⟨(xs.isEmpty, xs), ?_, fun q hq => ?_⟩
   ·simp only [bnd_eq, Option.map_some]
    cases (decide (1 ≤ v.length) && decide (v.length % 2 = 0)) <;> rfl
   ·simp only [Option.map_some] at hq
    cases hc : (decide (1 ≤ v.length) && decide (v.length % 2 = 0)) <;> rw [hc] at hq <;> cases hq
    rfl
theorem G38x0_eq (hN : maxLen < N) (v : List UInt8) (hv : v.length ≤ 10000000) : ∃ p : Bool × LD, G38x0 N v = some (p.1, p.2, (hexD v).isSome) ∧ ∀ q, hexD v = some q → p = q := by
 have hM : maxLen = 9223372036854775807 := rfl
 unfold G38x0 F38x0 hexD
 cases h0 : v == ([45] : List UInt8) with
 | true => exact ⟨(true, []), rfl, fun q hq => by cases hq; rfl⟩
 | false =>
  simp only [_root_.cond_false]
  have hd : (bif v == ([] : List UInt8) then true else ((v.length : Int).tmod 2 != 0)) = !(decide (1 ≤ v.length) && decide (v.length % 2 = 0)) := by
   rw [show ((v.length : Int).tmod 2 != 0) = !decide (v.length % 2 = 0) by rw [← mod2]; rfl]
   cases v with
   | nil => rfl
   | cons a r => rw [show decide (1 ≤ (a :: r).length) = true from decide_eq_true (by simp)]; rfl
  rw [hd]
  cases hc : (decide (1 ≤ v.length) && decide (v.length % 2 = 0)) with
  | false => exact ⟨(true, []), rfl, fun q hq => by cases hq⟩
  | true =>
   simp only [Bool.not_true, _root_.cond_false, bnd_eq, _root_.cond_true]
   rw [Bool.and_eq_true, decide_eq_true_eq, decide_eq_true_eq] at hc
   have hl := hex38 (N := N) hv v.length v 0 N true [] (Nat.le_refl _) hc.2 rfl (by omega) (by simp) (by omega)
   cases hp : hexP v with
   | none =>
    obtain ⟨p, q⟩ := hl.1 hp
    have q : G38x0x21 N v 0 true [] = some (.inl p) := q
    rw [q]
    exact ⟨(true, []), rfl, fun q hq => by cases hq⟩
   | some xs =>
    have q : G38x0x21 N v 0 true [] = some (.inr (true && xs.isEmpty, [] ++ xs)) := hl.2 xs hp
    rw [q]
    exact ⟨(xs.isEmpty, xs), rfl, fun q hq => by cases hq; rfl⟩
def okW (s : List UInt8) : Bool := match splitL 58 s with
 | [a, b, c] => rnB a && rnB b && rnB c
 | _ => false
def fldW (s : List UInt8) : D := match splitL 58 s with
 | [a, b, c] => .a [.i (digV 0 a), .i (digV 0 b), .i (digV 0 c)]
 | _ => .i 0
theorem G39x0_eq (hN : maxLen < N) (v : List UInt8) (hv : v.length ≤ 10000000) : ∃ a b c : Int, G39x0 N v = some (a, b, c, okW v) ∧ (okW v = true → fldW v = .a [.i a, .i b, .i c]) := by
 have hb : Nat.blt v.length 4294967281 = true := Nat.ble_eq_true_of_le (by omega)
 unfold G39x0 F39x0 okW fldW
 rw [hb, splitD_one]
 match hs : splitL 58 v with
 | [] => exact ⟨0, 0, 0, rfl, fun h => by cases h⟩
 | [a] => exact ⟨0, 0, 0, rfl, fun h => by cases h⟩
 | [a, b] => exact ⟨0, 0, 0, rfl, fun h => by cases h⟩
 | [a, b, c] =>
  have e0 : (((strsD [a, b, c]).length : Int) != 3) = false := rfl
  have e1 : inB 0 (strsD [a, b, c]).length = true := rfl
  have e2 : inB 1 (strsD [a, b, c]).length = true := rfl
  have e3 : inB 2 (strsD [a, b, c]).length = true := rfl
  have f0 : ((strsD [a, b, c]).getD 0 (.i 0)).toS = a := rfl
  have f1 : ((strsD [a, b, c]).getD 1 (.i 0)).toS = b := rfl
  have f2 : ((strsD [a, b, c]).getD 2 (.i 0)).toS = c := rfl
  simp only [Bool.true_and, List.isEmpty_cons, Bool.not_false, _root_.cond_true, bnd_eq, e0, _root_.cond_false, e1, e2, e3, f0, f1, f2, G37x0_eq hN, Option.isSome_some, getD_some]
  rw [show decide (0 < (strsD [a, b, c]).length) = true from rfl, show decide (1 < (strsD [a, b, c]).length) = true from rfl, show decide (2 < (strsD [a, b, c]).length) = true from rfl]
  cases rnB a <;> cases rnB b <;> cases rnB c <;> exact ⟨_, _, _, rfl, fun h => by first | rfl | cases h⟩
 | a :: b :: c :: d :: r =>
  have e0 : (((strsD (a :: b :: c :: d :: r)).length : Int) != 3) = true := by
   simp only [strsD, List.length_map, List.length_cons, bne_iff_ne, ne_eq]; omega
  simp only [Bool.true_and, List.isEmpty_cons, Bool.not_false, _root_.cond_true, bnd_eq, e0]
  exact ⟨0, 0, 0, rfl, fun h => by cases h⟩
end Go.Proofs.YthifhnmfecjjcaaGreatDoor

namespace Go.Proofs.YthifhnmfecjjcaaGreatDoor
open Go Go.AM
set_option maxRecDepth 100000
set_option maxHeartbeats 4000000
set_option linter.unusedVariables false
variable {N : Nat}
theorem at_dropD {xs r : List D} {p : D} {i : Nat} (h : xs.drop i = p :: r) : i < xs.length ∧ xs.getD i (.i 0) = p ∧ xs.drop (i + 1) = r := by
 have hl := congrArg List.length h
 rw [List.length_drop, List.length_cons] at hl
 have hi : i < xs.length := by omega
 rw [List.drop_eq_getElem_cons hi] at h
 injection h with h1 h2
 exact ⟨hi, by rw [List.getD_eq_getElem?_getD, List.getElem?_eq_getElem hi]; exact h1, h2⟩
def okD (d : D) : Bool := okW d.toS
def fldO (d : D) : D := fldW d.toS
theorem flds12 {ws : List D} (hw : ws.length ≤ 10000001) (hs : ∀ d ∈ ws, d.toS.length ≤ 10000000) : ∀ (r : List D) (i m : Nat) (b fl : Bool) (acc : List D), ws.drop i = r → i ≤ ws.length → acc.length ≤ i → r.length < m →
  ∃ R, L12x0x36 N (R := Sum (Bool × LD) (Bool × Bool × LD)) ws ws.length m (i : Int) b fl acc (fun p => some (.inl p)) (fun p => some (.inr p)) = some R ∧
   ((∃ p, R = .inl p ∧ r.all okD = false) ∨ (∃ fl' acc', R = .inr (b && r.all okD, fl', acc') ∧ (r.all okD = true → fl' = (fl && r.isEmpty) ∧ acc' = acc ++ r.map fldO)))
 | _, _, 0, _, _, _, _, _, _, hm => by omega
 | [], i, m + 1, b, fl, acc, hd, hi, ha, _ => by
  have hl := congrArg List.length hd
  simp at hl
  have : ¬ (i : Int) < (ws.length : Int) := by omega
  simp only [L12x0x36, S12x0x36, decide_eq_false this, _root_.cond_false]
  exact ⟨_, rfl, .inr ⟨fl, acc, by simp, fun _ => by simp⟩⟩
 | d :: r, i, m + 1, b, fl, acc, hd, hi, ha, hm => by
  obtain ⟨h1, h2, h3⟩ := at_dropD hd
  have hmem : d ∈ ws := List.mem_of_mem_drop (by rw [hd]; simp)
  have hlt : (i : Int) < (ws.length : Int) := by omega
  have hin : inB (i : Int) ws.length = true := inB_of (by omega) (by omega)
  have hblt : Nat.blt d.toS.length 4294967281 = true := Nat.ble_eq_true_of_le (by have := hs d hmem; omega)
  have hpc : ∀ p ∈ splitL 58 d.toS, p.length ≤ 281474976710656 := fun p hp => by have := splitL_piece hp; have := hs d hmem; omega
  have hw2 : IntKind.wrap .i64 ((i : Int) + 1) = ((i + 1 : Nat) : Int) := wrapI (by omega) (by omega)
  have hroom := roomOk (n := acc.length) (k := 24) (by omega) (by omega)
  simp only [L12x0x36, S12x0x36, decide_eq_true hlt, _root_.cond_true, hin, Int.toNat_natCast, h2, hblt, Bool.true_and, List.isEmpty_cons, Bool.not_false, splitD_one]
  have hk : ∀ l, splitL 58 d.toS = l → okD d = (match l with | [a, b, c] => rnB a && rnB b && rnB c | _ => false) ∧ fldO d = (match l with | [a, b, c] => .a [.i (digV 0 a), .i (digV 0 b), .i (digV 0 c)] | _ => .i 0) := fun l hl => by
   unfold okD okW fldO fldW
   rw [hl]; exact ⟨rfl, rfl⟩
  match hsp : splitL 58 d.toS with
  | [] => exact ⟨_, rfl, .inl ⟨_, rfl, by rw [List.all_cons, (hk _ hsp).1]; rfl⟩⟩
  | [x] => exact ⟨_, rfl, .inl ⟨_, rfl, by rw [List.all_cons, (hk _ hsp).1]; rfl⟩⟩
  | [x, y] => exact ⟨_, rfl, .inl ⟨_, rfl, by rw [List.all_cons, (hk _ hsp).1]; rfl⟩⟩
  | x :: y :: z :: u :: q =>
   have e0 : (((strsD (x :: y :: z :: u :: q)).length : Int) != 3) = true := by
    simp only [strsD, List.length_map, List.length_cons, bne_iff_ne, ne_eq]; omega
   simp only [bnd_eq, e0, _root_.cond_true]
   exact ⟨_, rfl, .inl ⟨_, rfl, by rw [List.all_cons, (hk _ hsp).1]; rfl⟩⟩
  | [x, y, z] =>
   rw [hsp] at hpc
   have p1 := hpc x (by simp)
   have p2 := hpc y (by simp)
   have p3 := hpc z (by simp)
   have e0 : (((strsD [x, y, z]).length : Int) != 3) = false := rfl
   have e1 : inB 0 (strsD [x, y, z]).length = true := rfl
   have e2 : inB 1 (strsD [x, y, z]).length = true := rfl
   have e3 : inB 2 (strsD [x, y, z]).length = true := rfl
   have f0 : ((strsD [x, y, z]).getD 0 (.i 0)).toS = x := rfl
   have f1 : ((strsD [x, y, z]).getD 1 (.i 0)).toS = y := rfl
   have f2 : ((strsD [x, y, z]).getD 2 (.i 0)).toS = z := rfl
   have g0 : decide (0 < (strsD [x, y, z]).length) = true := rfl
   have g1 : decide (1 < (strsD [x, y, z]).length) = true := rfl
   have g2 : decide (2 < (strsD [x, y, z]).length) = true := rfl
   simp only [bnd_eq, e0, _root_.cond_false, _root_.cond_true, e1, e2, e3, f0, f1, f2, g0, g1, g2, G31x1_eq x p1, G31x1_eq y p2, G31x1_eq z p3, Option.isSome_some, getD_some, hroom, hw2]
   obtain ⟨R, q1, q2⟩ := flds12 hw hs r (i + 1) m (b && rnB x && rnB y && rnB z) false (acc ++ [.a [.i (atoiV x), .i (atoiV y), .i (atoiV z)]]) h3 (by omega) (by simp; omega) (by simp at hm; omega)
   refine ⟨R, q1, ?_⟩
   have ho : okD d = (rnB x && rnB y && rnB z) := (hk _ hsp).1
   have hf : fldO d = .a [.i (digV 0 x), .i (digV 0 y), .i (digV 0 z)] := (hk _ hsp).2
   rcases q2 with ⟨p, e, q⟩ | ⟨fl', acc', e, q⟩
   ·exact .inl ⟨p, e, by rw [List.all_cons, q, Bool.and_false]⟩
   ·refine .inr ⟨fl', acc', ?_, fun hall => ?_⟩
    ·rw [e, List.all_cons, ho]
     simp only [Bool.and_assoc]
    ·rw [List.all_cons, Bool.and_eq_true, ho, Bool.and_eq_true, Bool.and_eq_true] at hall
     obtain ⟨r1, r2⟩ := q hall.2
     refine ⟨by rw [r1]; simp, ?_⟩
     rw [r2, List.map_cons, hf, rn_val hall.1.1.1, rn_val hall.1.1.2, rn_val hall.1.2]
     simp
theorem flds14 (hN : maxLen < N) {ws : List D} (hw : ws.length ≤ 10000001) (hs : ∀ d ∈ ws, d.toS.length ≤ 10000000) : ∀ (r : List D) (i m : Nat) (b fl : Bool) (acc : List D), ws.drop i = r → i ≤ ws.length → acc.length ≤ i → r.length < m →
  ∃ fl' acc', L14x0x66 N (R := Bool × Bool × LD) ws ws.length m b (i : Int) fl acc (fun p => some p) = some (b && r.all okD, fl', acc') ∧ (r.all okD = true → fl' = (fl && r.isEmpty) ∧ acc' = acc ++ r.map fldO)
 | _, _, 0, _, _, _, _, _, _, hm => by omega
 | [], i, m + 1, b, fl, acc, hd, hi, ha, _ => by
  have hl := congrArg List.length hd
  simp at hl
  have : ¬ (i : Int) < (ws.length : Int) := by omega
  simp only [L14x0x66, S14x0x66, decide_eq_false this, _root_.cond_false]
  exact ⟨fl, acc, by simp, fun _ => by simp⟩
 | d :: r, i, m + 1, b, fl, acc, hd, hi, ha, hm => by
  obtain ⟨h1, h2, h3⟩ := at_dropD hd
  have hmem : d ∈ ws := List.mem_of_mem_drop (by rw [hd]; simp)
  have hlt : (i : Int) < (ws.length : Int) := by omega
  have hin : inB (i : Int) ws.length = true := inB_of (by omega) (by omega)
  have hw2 : IntKind.wrap .i64 ((i : Int) + 1) = ((i + 1 : Nat) : Int) := wrapI (by omega) (by omega)
  have hroom := roomOk (n := acc.length) (k := 24) (by omega) (by omega)
  obtain ⟨x, y, z, g1, g2⟩ := G39x0_eq hN d.toS (hs d hmem)
  simp only [L14x0x66, S14x0x66, decide_eq_true hlt, _root_.cond_true, hin, Int.toNat_natCast, h2, g1, bnd_eq, Option.isSome_some, getD_some, hroom, hw2]
  obtain ⟨fl', acc', e, q⟩ := flds14 hN hw hs r (i + 1) m (bif b then okW d.toS else false) false (acc ++ [.a [.i x, .i y, .i z]]) h3 (by omega) (by simp; omega) (by simp at hm; omega)
  refine ⟨fl', acc', ?_, fun hall => ?_⟩
  ·rw [e, List.all_cons]
   unfold okD
   cases b <;> rfl
  ·rw [List.all_cons, Bool.and_eq_true] at hall
   obtain ⟨r1, r2⟩ := q hall.2
   refine ⟨by rw [r1]; simp, ?_⟩
   rw [r2, List.map_cons]
   show _ = acc ++ fldW d.toS :: _
   rw [g2 hall.1]
   simp
end Go.Proofs.YthifhnmfecjjcaaGreatDoor

namespace Go.Proofs.YthifhnmfecjjcaaGreatDoor
open Go Go.AM
set_option maxRecDepth 100000
set_option maxHeartbeats 4000000
set_option linter.unusedVariables false
set_option linter.unusedSimpArgs false
variable {N : Nat}
abbrev sData : List UInt8 := [100, 97, 116, 97]
abbrev sShort : List UInt8 := [115, 104, 111, 114, 116]
abbrev sDefine : List UInt8 := [100, 101, 102, 105, 110, 101]
abbrev sLittle : List UInt8 := [108, 105, 116, 116, 108, 101]
abbrev sBig : List UInt8 := [98, 105, 103]
abbrev Ent : Type := Int × Int × Int × Bool × LD × Bool × LD
def entW : List (List UInt8) → Option Ent
 | k :: a :: r =>
  bif k == sData && decide (r.length = 1) then (bif rnB a then (hexD (r.getD 0 [])).map (fun p => ((2 : Int), (digV 0 a : Int), (0 : Int), true, ([] : LD), p.1, p.2)) else none)
  else bif k == sShort && decide (r.length = 2) then (bif rnB a && rnB (r.getD 0 []) then (hexD (r.getD 1 [])).map (fun p => ((3 : Int), (digV 0 a : Int), (digV 0 (r.getD 0 []) : Int), true, ([] : LD), p.1, p.2)) else none)
  else bif k == sDefine && decide (2 ≤ r.length) then (bif rnB a && rnB (r.getD 0 []) && (r.getD 1 [] == sLittle || r.getD 1 [] == sBig) && (r.drop 2).all okW then
   some ((1 : Int), (digV 0 a : Int), (0 : Int), false, [D.a [.b (r.getD 1 [] == sBig), .i (digV 0 (r.getD 0 [])), .l (r.drop 2).isEmpty ((r.drop 2).map fldW)]], true, ([] : LD)) else none)
  else none
 | _ => none
theorem entW_cons (k a : List UInt8) (r : List (List UInt8)) : entW (k :: a :: r) = (
  bif k == sData && decide (r.length = 1) then (bif rnB a then (hexD (r.getD 0 [])).map (fun p => ((2 : Int), (digV 0 a : Int), (0 : Int), true, ([] : LD), p.1, p.2)) else none)
  else bif k == sShort && decide (r.length = 2) then (bif rnB a && rnB (r.getD 0 []) then (hexD (r.getD 1 [])).map (fun p => ((3 : Int), (digV 0 a : Int), (digV 0 (r.getD 0 []) : Int), true, ([] : LD), p.1, p.2)) else none)
  else bif k == sDefine && decide (2 ≤ r.length) then (bif rnB a && rnB (r.getD 0 []) && (r.getD 1 [] == sLittle || r.getD 1 [] == sBig) && (r.drop 2).all okW then
   some ((1 : Int), (digV 0 a : Int), (0 : Int), false, [D.a [.b (r.getD 1 [] == sBig), .i (digV 0 (r.getD 0 [])), .l (r.drop 2).isEmpty ((r.drop 2).map fldW)]], true, ([] : LD)) else none)
  else none) := rfl
def entP (v : List UInt8) : Option Ent := entW (splitL 32 v)
def hold (p : Int × Int × Int × Bool × LD × Bool × LD × Bool) (e : Option Ent) : Prop :=
 p.2.2.2.2.2.2.2 = e.isSome ∧ ∀ q, e = some q → (p.1, p.2.1, p.2.2.1, p.2.2.2.1, p.2.2.2.2.1, p.2.2.2.2.2.1, p.2.2.2.2.2.2.1) = q
theorem hold_none {p : Int × Int × Int × Bool × LD × Bool × LD × Bool} {e : Option Ent} (he : e = none) (h : p.2.2.2.2.2.2.2 = false) : hold p e := by
 subst he
 exact ⟨h, fun q hq => by cases hq⟩
theorem hold_some {p : Int × Int × Int × Bool × LD × Bool × LD × Bool} {e : Option Ent} {q : Ent} (he : e = some q) (h : p = (q.1, q.2.1, q.2.2.1, q.2.2.2.1, q.2.2.2.2.1, q.2.2.2.2.2.1, q.2.2.2.2.2.2, true)) : hold p e := by
 subst he h
 exact ⟨rfl, fun q' hq => by cases hq; rfl⟩
theorem orders_eq (hN : maxLen < N) (o : List UInt8) : G32x0 N (V22x0 N) o = some (bif o == sLittle then 0 else bif o == sBig then 1 else -1) := by
 have hM : maxLen = 9223372036854775807 := rfl
 have k : G32x0x6 N (V22x0 N) o ((V22x0 N).length : Int) 0 = some (bif o == sLittle then .inl 0 else bif o == sBig then .inl 1 else .inr ()) := by
  unfold G32x0x6
  generalize hm : N = m'
  obtain ⟨m, rfl⟩ : ∃ m, m' = m + 3 := ⟨m' - 3, by omega⟩
  have hV : V22x0 (m + 3) = [.s sLittle, .s sBig] := rfl
  rw [hV]
  have e0 : ([D.s sLittle, .s sBig].getD (0 : Int).toNat (.i 0)).toS = sLittle := rfl
  have e1 : ([D.s sLittle, .s sBig].getD (1 : Int).toNat (.i 0)).toS = sBig := rfl
  have w1 : IntKind.wrap .i64 ((0 : Int) + 1) = 1 := by decide
  have w2 : IntKind.wrap .i64 ((1 : Int) + 1) = 2 := by decide
  have i0 : inB 0 [D.s sLittle, .s sBig].length = true := rfl
  have i1 : inB 1 [D.s sLittle, .s sBig].length = true := rfl
  have l0 : decide ((0 : Int) < (([D.s sLittle, .s sBig].length : Nat) : Int)) = true := rfl
  have l1 : decide ((1 : Int) < (([D.s sLittle, .s sBig].length : Nat) : Int)) = true := rfl
  have l2 : decide ((2 : Int) < (([D.s sLittle, .s sBig].length : Nat) : Int)) = false := rfl
  simp only [L32x0x6, S32x0x6, l0, l1, l2, i0, i1, e0, e1, w1, w2, _root_.cond_true, _root_.cond_false]
  cases o == sLittle with
  | true => rfl
  | false =>
   cases o == sBig with
   | true => rfl
   | false => rfl
 unfold G32x0 F32x0
 rw [k]
 cases o == sLittle with
 | true => rfl
 | false =>
  cases o == sBig with
  | true => rfl
  | false => rfl
theorem strsD_len (w : List (List UInt8)) : (strsD w).length = w.length := by simp [strsD]
theorem inlB_l {α β : Type} (x : α) : inlB (some (Sum.inl x : Sum α β)) = true := rfl
theorem all_strs (ws : List (List UInt8)) : (strsD ws).all okD = ws.all okW := by
 unfold strsD
 rw [List.all_map]; rfl
theorem map_strs (ws : List (List UInt8)) : (strsD ws).map fldO = ws.map fldW := by
 unfold strsD
 rw [List.map_map]; rfl
theorem bigIdx (o : List UInt8) : (decide ((bif o == sLittle then (0 : Int) else bif o == sBig then 1 else -1) ≥ 0) = (o == sLittle || o == sBig)) ∧ (((bif o == sLittle then (0 : Int) else bif o == sBig then 1 else -1) == 1) = (o == sBig)) := by
 cases h1 : o == sLittle with
 | true =>
  have : o = sLittle := eq_of_beq h1
  subst this
  exact ⟨rfl, rfl⟩
 | false => cases o == sBig <;> exact ⟨rfl, rfl⟩
theorem short_none {k : List UInt8} {r : List (List UInt8)} (hr : r.length ≤ 2) : G12x0x18017 N false true (strsD (k :: r)) = some (.inr (.inr (.inr ()))) := by
 have hl : (strsD (k :: r)).length = r.length + 1 := by rw [strsD_len]; rfl
 have f0 : ((strsD (k :: r)).getD 0 (.i 0)).toS = k := rfl
 have c0 : inB 0 (strsD (k :: r)).length = true := by rw [hl]; exact inB_of (by omega) (by omega)
 have d0 : decide (0 < (strsD (k :: r)).length) = true := decide_eq_true (by rw [hl]; omega)
 have n4 : ∀ b, (bif b then (((strsD (k :: r)).length : Int) == 4) else false) = false := fun b => by
  rw [show (((strsD (k :: r)).length : Int) == 4) = false by rw [hl, beq_eq_false_iff_ne]; omega]
  cases b <;> rfl
 have g4 : ∀ b, (bif b then decide (((strsD (k :: r)).length : Int) ≥ 4) else false) = false := fun b => by
  rw [decide_eq_false (by rw [hl]; omega)]
  cases b <;> rfl
 unfold G12x0x18017 F12x0x18017
 simp only [_root_.cond_false, c0, d0, f0, n4, g4, _root_.cond_true, bnd_eq]
theorem G12x0_eq (hN : maxLen < N) (v : List UInt8) (hv : v.length ≤ 10000000) : ∃ p, G12x0 N v = some p ∧ hold p (entP v) := by
 have hM : maxLen = 9223372036854775807 := rfl
 have hb : Nat.blt v.length 4294967281 = true := Nat.ble_eq_true_of_le (by omega)
 have hpc : ∀ p ∈ splitL 32 v, p.length ≤ 10000000 := fun p hp => by have := splitL_piece hp; omega
 have hcount := splitL_length 32 v
 unfold G12x0 F12x0 entP
 rw [hb, splitD_one]
 simp only [Bool.true_and, List.isEmpty_cons, Bool.not_false, _root_.cond_true]
 generalize splitL 32 v = w at hpc hcount
 match w, hpc, hcount with
 | [], _, hcount => simp at hcount
 | [k], _, _ =>
  have f0 : ((strsD [k]).getD 0 (.i 0)).toS = k := rfl
  have c0 : inB 0 (strsD [k]).length = true := rfl
  have d0 : decide (0 < (strsD [k]).length) = true := rfl
  have n3 : ∀ b, (bif b then (((strsD [k]).length : Int) == 3) else false) = false := fun b => by cases b <;> rfl
  simp only [c0, d0, f0, n3, _root_.cond_true, bnd_eq, short_none (N := N) (k := k) (r := []) (by simp)]
  exact ⟨(0, 0, 0, true, [], true, [], false), rfl, hold_none rfl rfl⟩
 | [k, a], _, _ =>
  have f0 : ((strsD [k, a]).getD 0 (.i 0)).toS = k := rfl
  have c0 : inB 0 (strsD [k, a]).length = true := rfl
  have d0 : decide (0 < (strsD [k, a]).length) = true := rfl
  have n3 : ∀ b, (bif b then (((strsD [k, a]).length : Int) == 3) else false) = false := fun b => by cases b <;> rfl
  simp only [c0, d0, f0, n3, _root_.cond_true, bnd_eq, short_none (N := N) (k := k) (r := [a]) (by simp)]
  refine ⟨(0, 0, 0, true, [], true, [], false), rfl, hold_none ?_ rfl⟩
  rw [entW_cons]
  cases k == sData <;> cases k == sShort <;> cases k == sDefine <;> rfl
 | [k, a, d], hpc, _ =>
  have pa := hpc a (by simp)
  have pd := hpc d (by simp)
  have f0 : ((strsD [k, a, d]).getD 0 (.i 0)).toS = k := rfl
  have f1 : ((strsD [k, a, d]).getD 1 (.i 0)).toS = a := rfl
  have f2 : ((strsD [k, a, d]).getD 2 (.i 0)).toS = d := rfl
  have c0 : inB 0 (strsD [k, a, d]).length = true := rfl
  have c1 : inB 1 (strsD [k, a, d]).length = true := rfl
  have c2 : inB 2 (strsD [k, a, d]).length = true := rfl
  have d0 : decide (0 < (strsD [k, a, d]).length) = true := rfl
  have d1 : decide (1 < (strsD [k, a, d]).length) = true := rfl
  have d2 : decide ((2 : Int).toNat < (strsD [k, a, d]).length) = true := rfl
  have n2 : IntKind.wrap .i64 (((strsD [k, a, d]).length : Int) - 1) = 2 := (by decide : IntKind.wrap .i64 (((3 : Nat) : Int) - 1) = 2)
  have n3 : ∀ b, (bif b then (((strsD [k, a, d]).length : Int) == 3) else false) = b := fun b => by cases b <;> rfl
  have f2' : ((strsD [k, a, d]).getD (2 : Int).toNat (.i 0)).toS = d := rfl
  simp only [c0, d0, f0, n3, _root_.cond_true, bnd_eq]
  cases hk : k == sData with
  | true =>
   have e : G12x0x18017 N true true (strsD [k, a, d]) = some (.inl (rnB a, 2, atoiV a, 0)) := by
    unfold G12x0x18017 F12x0x18017
    simp only [_root_.cond_true, c1, d1, f1, G31x1_eq a (by omega : a.length ≤ 281474976710656), bnd_eq, Option.isSome_some, getD_some, Bool.true_and]
   obtain ⟨p, g1, g2⟩ := G33x0_eq hN d pd
   rw [e]
   simp only [inlB_l, _root_.cond_true, n2, c2, d2, f2', g1, Option.isSome_some, getD_some, bnd_eq]
   refine ⟨(2, atoiV a, 0, true, [], p.1, p.2, bif rnB a then (hexD d).isSome else false), rfl, ?_⟩
   have hw : entW [k, a, d] = (bif rnB a then (hexD d).map (fun p => ((2 : Int), (digV 0 a : Int), (0 : Int), true, ([] : LD), p.1, p.2)) else none) := by
    rw [entW_cons, hk]; rfl
   rw [hw]
   cases ha : rnB a with
   | false => exact hold_none rfl rfl
   | true =>
    cases hd : hexD d with
    | none => exact hold_none rfl rfl
    | some q =>
     have := g2 q hd
     subst this
     exact hold_some rfl (by rw [rn_val ha]; rfl)
  | false =>
   rw [short_none (N := N) (k := k) (r := [a, d]) (by simp)]
   refine ⟨(0, 0, 0, true, [], true, [], false), rfl, hold_none ?_ rfl⟩
   rw [entW_cons, hk]
   cases k == sShort <;> cases k == sDefine <;> rfl
 | k :: a :: g :: o :: ws, hpc, hcount =>
  have pa := hpc a (by simp)
  have pg := hpc g (by simp)
  have hl : (strsD (k :: a :: g :: o :: ws)).length = ws.length + 4 := by rw [strsD_len]; rfl
  have c0 : inB 0 (strsD (k :: a :: g :: o :: ws)).length = true := by rw [hl]; exact inB_of (by omega) (by omega)
  have c1 : inB 1 (strsD (k :: a :: g :: o :: ws)).length = true := by rw [hl]; exact inB_of (by omega) (by omega)
  have c2 : inB 2 (strsD (k :: a :: g :: o :: ws)).length = true := by rw [hl]; exact inB_of (by omega) (by omega)
  have c3 : inB 3 (strsD (k :: a :: g :: o :: ws)).length = true := by rw [hl]; exact inB_of (by omega) (by omega)
  have d0 : decide (0 < (strsD (k :: a :: g :: o :: ws)).length) = true := decide_eq_true (by rw [hl]; omega)
  have d1 : decide (1 < (strsD (k :: a :: g :: o :: ws)).length) = true := decide_eq_true (by rw [hl]; omega)
  have d2 : decide (2 < (strsD (k :: a :: g :: o :: ws)).length) = true := decide_eq_true (by rw [hl]; omega)
  have d3 : decide (3 < (strsD (k :: a :: g :: o :: ws)).length) = true := decide_eq_true (by rw [hl]; omega)
  have f0 : ((strsD (k :: a :: g :: o :: ws)).getD 0 (.i 0)).toS = k := rfl
  have f1 : ((strsD (k :: a :: g :: o :: ws)).getD 1 (.i 0)).toS = a := rfl
  have f2 : ((strsD (k :: a :: g :: o :: ws)).getD 2 (.i 0)).toS = g := rfl
  have f3 : ((strsD (k :: a :: g :: o :: ws)).getD 3 (.i 0)).toS = o := rfl
  have n3 : (((strsD (k :: a :: g :: o :: ws)).length : Int) == 3) = false := by rw [hl, beq_eq_false_iff_ne]; omega
  have ge4 : decide (((strsD (k :: a :: g :: o :: ws)).length : Int) ≥ 4) = true := decide_eq_true (by rw [hl]; omega)
  have n4 : (((strsD (k :: a :: g :: o :: ws)).length : Int) == 4) = decide (ws.length = 0) := by rw [hl, Bool.eq_iff_iff, beq_iff_eq, decide_eq_true_eq]; omega
  have sl : decide (4 ≤ ((strsD (k :: a :: g :: o :: ws)).length : Int)) = true := decide_eq_true (by rw [hl]; omega)
  have sl2 : decide (((strsD (k :: a :: g :: o :: ws)).length : Int) ≤ ((strsD (k :: a :: g :: o :: ws)).length : Int)) = true := decide_eq_true (Int.le_refl _)
  have dr : ((strsD (k :: a :: g :: o :: ws)).take ((strsD (k :: a :: g :: o :: ws)).length : Int).toNat).drop 4 = strsD ws := by rw [Int.toNat_natCast, List.take_length]; rfl
  have y1 : (bif (k == sData) then (((strsD (k :: a :: g :: o :: ws)).length : Int) == 3) else false) = false := by rw [n3]; cases k == sData <;> rfl
  have y1' : ∀ b, (bif b then (((strsD (k :: a :: g :: o :: ws)).length : Int) == 3) else false) = false := by rw [n3]; intro b; cases b <;> rfl
  simp only [c0, d0, f0, _root_.cond_true, bnd_eq, y1', y1]
  have hwe : entW (k :: a :: g :: o :: ws) = (bif k == sShort && decide (ws.length = 0) then (bif rnB a && rnB g then (hexD o).map (fun p => ((3 : Int), (digV 0 a : Int), (digV 0 g : Int), true, ([] : LD), p.1, p.2)) else none)
    else bif k == sDefine then (bif rnB a && rnB g && (o == sLittle || o == sBig) && ws.all okW then some ((1 : Int), (digV 0 a : Int), (0 : Int), false, [D.a [.b (o == sBig), .i (digV 0 g), .l ws.isEmpty (ws.map fldW)]], true, ([] : LD)) else none) else none) := by
   rw [entW_cons]
   have q1 : decide ((g :: o :: ws).length = 1) = false := decide_eq_false (by simp)
   have q2 : decide ((g :: o :: ws).length = 2) = decide (ws.length = 0) := by rw [Bool.eq_iff_iff]; simp
   have q3 : decide (2 ≤ (g :: o :: ws).length) = true := decide_eq_true (by simp)
   rw [q1, q2, q3, Bool.and_false, Bool.and_true]
   rfl
  rw [hwe]
  unfold G12x0x18017 F12x0x18017
  simp only [_root_.cond_false, c0, d0, f0, _root_.cond_true, bnd_eq, n4]
  rw [show (bif (k == ([115, 104, 111, 114, 116] : List UInt8)) then decide (ws.length = 0) else false) = (k == sShort && decide (ws.length = 0)) by cases k == sShort <;> rfl]
  cases hks : (k == sShort && decide (ws.length = 0)) with
  | true =>
   simp only [_root_.cond_true, c1, c2, d1, d2, f1, f2, G31x1_eq a (by omega : a.length ≤ 281474976710656), G31x1_eq g (by omega : g.length ≤ 281474976710656), bnd_eq, Option.isSome_some, getD_some, Bool.true_and]
   rw [Bool.and_eq_true, decide_eq_true_eq] at hks
   have hws : ws = [] := List.eq_nil_of_length_eq_zero hks.2
   subst hws
   have po := hpc o (by simp)
   obtain ⟨p, g1, g2⟩ := G33x0_eq hN o po
   refine ⟨(3, atoiV a, atoiV g, true, [], p.1, p.2, bif (rnB a && rnB g) then (hexD o).isSome else false), ?_, ?_⟩
   ·have n2 : IntKind.wrap .i64 (((strsD [k, a, g, o]).length : Int) - 1) = 3 := (by decide : IntKind.wrap .i64 (((4 : Nat) : Int) - 1) = 3)
    have f3' : ((strsD [k, a, g, o]).getD (3 : Int).toNat (.i 0)).toS = o := rfl
    have d3' : decide ((3 : Int).toNat < (strsD [k, a, g, o]).length) = true := rfl
    simp only [inlB_l, _root_.cond_true, n2, c3, d3', f3', g1, Option.isSome_some, getD_some]
    rfl
   ·cases ha : rnB a && rnB g with
    | false => exact hold_none rfl rfl
    | true =>
     rw [Bool.and_eq_true] at ha
     cases hd : hexD o with
     | none => exact hold_none rfl rfl
     | some q =>
      have := g2 q hd
      subst this
      exact hold_some rfl (by rw [rn_val ha.1, rn_val ha.2]; rfl)
  | false =>
   simp only [_root_.cond_false, ge4]
   rw [show (bif (k == ([100, 101, 102, 105, 110, 101] : List UInt8)) then true else false) = (k == sDefine) by cases k == sDefine <;> rfl]
   cases hkd : (k == sDefine) with
   | false => exact ⟨(0, 0, 0, true, [], true, [], false), rfl, hold_none rfl rfl⟩
   | true =>
    simp only [_root_.cond_true, c1, c2, c3, d1, d2, d3, f1, f2, f3, orders_eq hN, G31x1_eq a (by omega : a.length ≤ 281474976710656), G31x1_eq g (by omega : g.length ≤ 281474976710656), bnd_eq, Option.isSome_some, getD_some, Bool.and_true, Bool.true_and, Bool.and_self, sl, sl2, dr, (bigIdx o).1, (bigIdx o).2]
    have hsz : ∀ d ∈ strsD ws, d.toS.length ≤ 10000000 := by
     intro d hd
     unfold strsD at hd
     obtain ⟨x, hx, rfl⟩ := List.mem_map.1 hd
     exact hpc x (by simp [hx])
    obtain ⟨R, q1, q2⟩ := flds12 (N := N) (ws := strsD ws) (by rw [strsD_len]; simp at hcount; omega) hsz (strsD ws) 0 N (rnB g) true [] rfl (by omega) (by simp) (by rw [strsD_len]; simp at hcount; omega)
    have q1 : G12x0x36 N (strsD ws) ((strsD ws).length : Int) 0 (rnB g) true [] = some R := q1
    rw [q1]
    rw [all_strs] at q2
    rcases q2 with ⟨p, rfl, hbad⟩ | ⟨fl', acc', rfl, hok⟩
    ·simp only [inlB_l, _root_.cond_true]
     refine ⟨(0, 0, 0, true, [], true, [], false), rfl, hold_none ?_ rfl⟩
     rw [hbad, Bool.and_false]; rfl
    ·simp only [inlB_inr, _root_.cond_false, inrQ_inr, Option.isSome_some, _root_.cond_true, getD_some]
     refine ⟨(1, atoiV a, 0, false, [.a [.b (o == sBig), .i (atoiV g), .l fl' acc']], true, [], bif (rnB g && ws.all okW && rnB a) then (o == sLittle || o == sBig) else false), rfl, ?_⟩
     cases hall : (rnB a && rnB g && (o == sLittle || o == sBig) && ws.all okW) with
     | false =>
      refine hold_none rfl ?_
      show (bif (rnB g && ws.all okW && rnB a) then (o == sLittle || o == sBig) else false) = false
      revert hall
      cases rnB g <;> cases ws.all okW <;> cases rnB a <;> cases (o == sLittle || o == sBig) <;> intro hall <;> first | rfl | cases hall
     | true =>
      simp only [Bool.and_eq_true] at hall
      obtain ⟨⟨⟨h1, h2⟩, h3⟩, h4⟩ := hall
      obtain ⟨r1, r2⟩ := hok h4
      refine hold_some rfl ?_
      rw [r1, r2, map_strs, rn_val h1, rn_val h2, h1, h2, h4, h3]
      cases ws <;> rfl
end Go.Proofs.YthifhnmfecjjcaaGreatDoor

namespace Go.Proofs.YthifhnmfecjjcaaGreatDoor
open Go Go.AM
set_option maxRecDepth 100000
set_option maxHeartbeats 4000000
set_option linter.unusedVariables false
set_option linter.unusedSimpArgs false
variable {N : Nat}
theorem entW_bad {k a : List UInt8} {r : List (List UInt8)} (h : rnB a = false) : entW (k :: a :: r) = none := by
 rw [entW_cons, h]
 simp only [Bool.false_and, _root_.cond_false]
 cases k == sData && decide (r.length = 1) <;> cases k == sShort && decide (r.length = 2) <;> cases k == sDefine && decide (2 ≤ r.length) <;> rfl
theorem G14x0_eq (hN : maxLen < N) (v : List UInt8) (hv : v.length ≤ 10000000) : ∃ p, G14x0 N v = some p ∧ hold p (entP v) := by
 have hM : maxLen = 9223372036854775807 := rfl
 have hb : Nat.blt v.length 4294967281 = true := Nat.ble_eq_true_of_le (by omega)
 have hpc : ∀ p ∈ splitL 32 v, p.length ≤ 10000000 := fun p hp => by have := splitL_piece hp; omega
 have hcount := splitL_length 32 v
 unfold G14x0 F14x0 entP
 rw [hb, splitD_one]
 simp only [Bool.true_and, List.isEmpty_cons, Bool.not_false, _root_.cond_true]
 generalize splitL 32 v = w at hpc hcount
 match w, hpc, hcount with
 | [], _, hcount => simp at hcount
 | [k], _, _ => exact ⟨(0, 0, 0, true, [], true, [], false), rfl, hold_none rfl rfl⟩
 | [k, a], _, _ =>
  refine ⟨(0, 0, 0, true, [], true, [], false), rfl, hold_none ?_ rfl⟩
  rw [entW_cons]
  cases k == sData <;> cases k == sShort <;> cases k == sDefine <;> rfl
 | [k, a, d], hpc, _ =>
  have pd := hpc d (by simp)
  have f0 : ((strsD [k, a, d]).getD 0 (.i 0)).toS = k := rfl
  have f1 : ((strsD [k, a, d]).getD 1 (.i 0)).toS = a := rfl
  have f2 : ((strsD [k, a, d]).getD 2 (.i 0)).toS = d := rfl
  have l3 : decide (((strsD [k, a, d]).length : Int) < 3) = false := rfl
  have c0 : inB 0 (strsD [k, a, d]).length = true := rfl
  have c1 : inB 1 (strsD [k, a, d]).length = true := rfl
  have c2 : inB 2 (strsD [k, a, d]).length = true := rfl
  have c3 : inB 3 (strsD [k, a, d]).length = false := rfl
  have d0 : decide (0 < (strsD [k, a, d]).length) = true := rfl
  have d1 : decide (1 < (strsD [k, a, d]).length) = true := rfl
  have d2 : decide (2 < (strsD [k, a, d]).length) = true := rfl
  have d3 : decide (3 < (strsD [k, a, d]).length) = false := rfl
  have n3 : ∀ b, (bif b then (((strsD [k, a, d]).length : Int) == 3) else false) = b := fun b => by cases b <;> rfl
  have n4 : ∀ b, (bif b then (((strsD [k, a, d]).length : Int) == 4) else false) = false := fun b => by cases b <;> rfl
  have g4 : ∀ b, (bif b then decide (((strsD [k, a, d]).length : Int) ≥ 4) else false) = false := fun b => by cases b <;> rfl
  simp only [bnd_eq, l3, _root_.cond_false, c1, d1, f1, G37x0_eq hN, Option.isSome_some, _root_.cond_true, getD_some]
  cases ha : rnB a with
  | false =>
   refine ⟨(0, 0, 0, true, [], true, [], false), rfl, hold_none (entW_bad ha) rfl⟩
  | true =>
   simp only [_root_.cond_true, Bool.not_true]
   unfold G14x0x21002 F14x0x21002
   simp only [_root_.cond_false, c0, d0, f0, _root_.cond_true, n3, n4, g4, c2, d2, f2, c3, d3, bnd_eq]
   obtain ⟨p, g1, g2⟩ := G38x0_eq hN d pd
   cases hk : k == sData with
   | true =>
    simp only [_root_.cond_true, g1, Option.isSome_some, getD_some, bnd_eq]
    refine ⟨(2, digV 0 a, 0, true, [], p.1, p.2, (hexD d).isSome), rfl, ?_⟩
    have hw : entW [k, a, d] = (hexD d).map (fun p => ((2 : Int), (digV 0 a : Int), (0 : Int), true, ([] : LD), p.1, p.2)) := by
     rw [entW_cons, hk, ha]; rfl
    rw [hw]
    cases hd : hexD d with
    | none => exact hold_none rfl rfl
    | some q =>
     have := g2 q hd
     subst this
     exact hold_some rfl rfl
   | false =>
    refine ⟨(0, digV 0 a, 0, true, [], true, [], false), rfl, hold_none ?_ rfl⟩
    rw [entW_cons, hk]
    cases k == sShort <;> cases k == sDefine <;> rfl
 | k :: a :: g :: o :: ws, hpc, hcount =>
  have hl : (strsD (k :: a :: g :: o :: ws)).length = ws.length + 4 := by rw [strsD_len]; rfl
  have c0 : inB 0 (strsD (k :: a :: g :: o :: ws)).length = true := by rw [hl]; exact inB_of (by omega) (by omega)
  have c1 : inB 1 (strsD (k :: a :: g :: o :: ws)).length = true := by rw [hl]; exact inB_of (by omega) (by omega)
  have c2 : inB 2 (strsD (k :: a :: g :: o :: ws)).length = true := by rw [hl]; exact inB_of (by omega) (by omega)
  have c3 : inB 3 (strsD (k :: a :: g :: o :: ws)).length = true := by rw [hl]; exact inB_of (by omega) (by omega)
  have d0 : decide (0 < (strsD (k :: a :: g :: o :: ws)).length) = true := decide_eq_true (by rw [hl]; omega)
  have d1 : decide (1 < (strsD (k :: a :: g :: o :: ws)).length) = true := decide_eq_true (by rw [hl]; omega)
  have d2 : decide (2 < (strsD (k :: a :: g :: o :: ws)).length) = true := decide_eq_true (by rw [hl]; omega)
  have d3 : decide (3 < (strsD (k :: a :: g :: o :: ws)).length) = true := decide_eq_true (by rw [hl]; omega)
  have l3 : decide (((strsD (k :: a :: g :: o :: ws)).length : Int) < 3) = false := decide_eq_false (by rw [hl]; omega)
  have f0 : ((strsD (k :: a :: g :: o :: ws)).getD 0 (.i 0)).toS = k := rfl
  have f1 : ((strsD (k :: a :: g :: o :: ws)).getD 1 (.i 0)).toS = a := rfl
  have f2 : ((strsD (k :: a :: g :: o :: ws)).getD 2 (.i 0)).toS = g := rfl
  have f3 : ((strsD (k :: a :: g :: o :: ws)).getD 3 (.i 0)).toS = o := rfl
  have n3 : ∀ b, (bif b then (((strsD (k :: a :: g :: o :: ws)).length : Int) == 3) else false) = false := fun b => by
   rw [show (((strsD (k :: a :: g :: o :: ws)).length : Int) == 3) = false by rw [hl, beq_eq_false_iff_ne]; omega]
   cases b <;> rfl
  have n4 : ∀ b, (bif b then (((strsD (k :: a :: g :: o :: ws)).length : Int) == 4) else false) = (b && decide (ws.length = 0)) := fun b => by
   rw [show (((strsD (k :: a :: g :: o :: ws)).length : Int) == 4) = decide (ws.length = 0) by rw [hl, Bool.eq_iff_iff, beq_iff_eq, decide_eq_true_eq]; omega]
   cases b <;> rfl
  have g4 : ∀ b, (bif b then decide (((strsD (k :: a :: g :: o :: ws)).length : Int) ≥ 4) else false) = b := fun b => by
   rw [show decide (((strsD (k :: a :: g :: o :: ws)).length : Int) ≥ 4) = true from decide_eq_true (by rw [hl]; omega)]
   cases b <;> rfl
  have sl : decide (4 ≤ ((strsD (k :: a :: g :: o :: ws)).length : Int)) = true := decide_eq_true (by rw [hl]; omega)
  have sl2 : decide (((strsD (k :: a :: g :: o :: ws)).length : Int) ≤ ((strsD (k :: a :: g :: o :: ws)).length : Int)) = true := decide_eq_true (Int.le_refl _)
  have dr : ((strsD (k :: a :: g :: o :: ws)).take ((strsD (k :: a :: g :: o :: ws)).length : Int).toNat).drop 4 = strsD ws := by rw [Int.toNat_natCast, List.take_length]; rfl
  simp only [bnd_eq, l3, _root_.cond_false, c1, d1, f1, G37x0_eq hN, Option.isSome_some, _root_.cond_true, getD_some]
  cases ha : rnB a with
  | false => exact ⟨(0, 0, 0, true, [], true, [], false), rfl, hold_none (entW_bad ha) rfl⟩
  | true =>
   have hwe : entW (k :: a :: g :: o :: ws) = (bif k == sShort && decide (ws.length = 0) then (bif rnB g then (hexD o).map (fun p => ((3 : Int), (digV 0 a : Int), (digV 0 g : Int), true, ([] : LD), p.1, p.2)) else none)
     else bif k == sDefine then (bif rnB g && (o == sLittle || o == sBig) && ws.all okW then some ((1 : Int), (digV 0 a : Int), (0 : Int), false, [D.a [.b (o == sBig), .i (digV 0 g), .l ws.isEmpty (ws.map fldW)]], true, ([] : LD)) else none) else none) := by
    rw [entW_cons]
    have q1 : decide ((g :: o :: ws).length = 1) = false := decide_eq_false (by simp)
    have q2 : decide ((g :: o :: ws).length = 2) = decide (ws.length = 0) := by rw [Bool.eq_iff_iff]; simp
    have q3 : decide (2 ≤ (g :: o :: ws).length) = true := decide_eq_true (by simp)
    rw [q1, q2, q3, Bool.and_false, Bool.and_true, ha]
    rfl
   rw [hwe]
   simp only [_root_.cond_true, Bool.not_true]
   unfold G14x0x21002 F14x0x21002
   simp only [_root_.cond_false, c0, d0, f0, _root_.cond_true, n3, n4, g4, c1, d1, f1, c2, d2, f2, c3, d3, f3, bnd_eq]
   cases hks : (k == sShort && decide (ws.length = 0)) with
   | true =>
    rw [Bool.and_eq_true, decide_eq_true_eq] at hks
    have hws : ws = [] := List.eq_nil_of_length_eq_zero hks.2
    subst hws
    have po := hpc o (by simp)
    obtain ⟨p, g1, g2⟩ := G38x0_eq hN o po
    simp only [_root_.cond_true, G37x0_eq hN, g1, Option.isSome_some, getD_some, bnd_eq]
    cases hg : rnB g with
    | false => exact ⟨(3, digV 0 a, 0, true, [], p.1, p.2, false), rfl, hold_none rfl rfl⟩
    | true =>
     refine ⟨(3, digV 0 a, digV 0 g, true, [], p.1, p.2, (hexD o).isSome), rfl, ?_⟩
     cases hd : hexD o with
     | none => exact hold_none rfl rfl
     | some q =>
      have := g2 q hd
      subst this
      exact hold_some rfl rfl
   | false =>
    simp only [_root_.cond_false]
    cases hkd : (k == sDefine) with
    | false => exact ⟨(0, digV 0 a, 0, true, [], true, [], false), rfl, hold_none rfl rfl⟩
    | true =>
     have hor : (bif o == ([108, 105, 116, 116, 108, 101] : List UInt8) then true else o == ([98, 105, 103] : List UInt8)) = (o == sLittle || o == sBig) := by cases o == sLittle <;> rfl
     simp only [_root_.cond_true, hor]
     cases ho : (o == sLittle || o == sBig) with
     | false =>
      refine ⟨(0, digV 0 a, 0, true, [], true, [], false), rfl, hold_none ?_ rfl⟩
      rw [Bool.and_false, Bool.false_and]; rfl
     | true =>
      have hsz : ∀ d ∈ strsD ws, d.toS.length ≤ 10000000 := by
       intro d hd
       unfold strsD at hd
       obtain ⟨x, hx, rfl⟩ := List.mem_map.1 hd
       exact hpc x (by simp [hx])
      simp only [_root_.cond_true, G37x0_eq hN, Option.isSome_some, getD_some, sl, sl2, Bool.and_self, dr, bnd_eq]
      obtain ⟨fl', acc', q1, q2⟩ := flds14 hN (ws := strsD ws) (by rw [strsD_len]; simp at hcount; omega) hsz (strsD ws) 0 N (rnB g) true [] rfl (by omega) (by simp) (by rw [strsD_len]; simp at hcount; omega)
      rw [all_strs] at q1 q2
      have hgb : (bif rnB g then ((digV 0 g : Int), true) else (0, false)).2 = rnB g := by cases rnB g <;> rfl
      have q1 : G14x0x66 N (strsD ws) ((strsD ws).length : Int) (rnB g) 0 true [] = some (rnB g && ws.all okW, fl', acc') := q1
      rw [hgb, q1]
      simp only [Option.isSome_some, _root_.cond_true, getD_some, Bool.and_true]
      cases hg : rnB g with
      | false => exact ⟨_, rfl, hold_none rfl rfl⟩
      | true =>
       cases hall : ws.all okW with
       | false => exact ⟨_, rfl, hold_none rfl rfl⟩
       | true =>
        obtain ⟨r1, r2⟩ := q2 hall
        refine ⟨_, rfl, hold_some rfl ?_⟩
        rw [r1, r2, map_strs]
        cases ws <;> rfl
end Go.Proofs.YthifhnmfecjjcaaGreatDoor

namespace Go.Proofs.YthifhnmfecjjcaaGreatDoor
open Go Go.AM
set_option maxRecDepth 100000
set_option maxHeartbeats 4000000
set_option linter.unusedVariables false
set_option linter.unusedSimpArgs false
variable {N : Nat}
def cutL : List UInt8 → List UInt8 × Option (List UInt8)
 | [] => ([], none)
 | x :: r => bif x == 10 then ([], some r) else (x :: (cutL r).1, (cutL r).2)
theorem cutL_spec : ∀ l : List UInt8, ((cutL l).2 = none ∧ (cutL l).1 = l ∧ Lib.indexByte l 10 = -1) ∨ (∃ b, (cutL l).2 = some b ∧ l = (cutL l).1 ++ 10 :: b ∧ Lib.indexByte l 10 = (cutL l).1.length)
 | [] => .inl ⟨rfl, rfl, rfl⟩
 | x :: r => by
  unfold cutL Lib.indexByte
  cases hx : x == 10 with
  | true =>
   have : x = 10 := eq_of_beq hx
   subst this
   exact .inr ⟨r, rfl, rfl, rfl⟩
  | false =>
   simp only [_root_.cond_false, if_false, Bool.false_eq_true]
   rcases cutL_spec r with ⟨h1, h2, h3⟩ | ⟨b, h1, h2, h3⟩
   ·exact .inl ⟨h1, by rw [h2], by rw [h3]; rfl⟩
   ·refine .inr ⟨b, h1, by rw [List.cons_append, ← h2], ?_⟩
    rw [h3]
    have : ¬ ((((cutL r).1.length : Nat) : Int) == -1) = true := by rw [beq_iff_eq]; omega
    rw [if_neg this, List.length_cons]
    omega
theorem V57x0_eq (w : List UInt8) : V57x0 N w = Lib.indexByte w 10 := by
 unfold V57x0 F57x0 V79x0 F79x0
 rw [bnd_eq]
 cases h : ([10] : List UInt8) == w with
 | true =>
  have : [10] = w := eq_of_beq h
  subst this; rfl
 | false => rfl
theorem G11x0_eq (w : List UInt8) (hw : w.length ≤ 10000000) : G11x0 N w = some ((cutL w).1, (cutL w).2.getD [], (cutL w).2.isSome) := by
 unfold G11x0 F11x0 G29x0 F29x0
 rw [V57x0_eq]
 rcases cutL_spec w with ⟨h1, h2, h3⟩ | ⟨b, h1, h2, h3⟩
 ·rw [h3, h1, h2]; rfl
 ·have hl := congrArg List.length h2
  simp at hl
  have hw1 : IntKind.wrap .i64 (((cutL w).1.length : Int) + 1) = (((cutL w).1.length + 1 : Nat) : Int) := wrapI (by omega) (by omega)
  have q1 : decide ((((cutL w).1.length : Nat) : Int) ≥ 0) = true := decide_eq_true (by omega)
  have q2 : decide ((0 : Int) ≤ (((cutL w).1.length : Nat) : Int)) = true := decide_eq_true (by omega)
  have q3 : decide ((((cutL w).1.length : Nat) : Int) ≤ (w.length : Int)) = true := decide_eq_true (by omega)
  have q4 : decide ((0 : Int) ≤ (((cutL w).1.length + 1 : Nat) : Int)) = true := decide_eq_true (by omega)
  have q5 : decide ((((cutL w).1.length + 1 : Nat) : Int) ≤ (w.length : Int)) = true := decide_eq_true (by omega)
  rw [h3]
  simp only [bnd_eq, hw1, q1, q2, q3, q4, q5, decide_eq_true (Int.le_refl (w.length : Int)), Bool.and_self, _root_.cond_true, Option.isSome_some, getD_some, Int.toNat_natCast, List.take_length, List.drop_zero, h1]
  have gen : ∀ a : List UInt8, w = a ++ 10 :: b → w.take a.length = a ∧ w.drop (a.length + 1) = b := fun a ha => by
   rw [ha]
   exact ⟨by simp, by simp⟩
  obtain ⟨e1, e2⟩ := gen _ h2
  rw [e1, e2]
theorem cutL_len {w b : List UInt8} (h : (cutL w).2 = some b) : (cutL w).1.length + b.length + 1 = w.length := by
 rcases cutL_spec w with ⟨h1, _⟩ | ⟨b', h1, h2, _⟩
 ·rw [h] at h1; cases h1
 ·rw [h] at h1
  cases h1
  have := congrArg List.length h2
  simp at this
  omega
theorem cutL_fst (w : List UInt8) : (cutL w).1.length ≤ w.length := by
 rcases cutL_spec w with ⟨_, h2, _⟩ | ⟨b', _, h2, _⟩
 ·rw [h2]; exact Nat.le_refl _
 ·have := congrArg List.length h2
  simp at this
  omega
theorem hexP_ok : ∀ (n : Nat) (v : List UInt8) (xs : List D), v.length ≤ n → hexP v = some xs → xs.length ≤ v.length ∧ BytesOk xs := by
 intro n
 induction n with
 | zero =>
  intro v xs hv h
  have : v = [] := List.eq_nil_of_length_eq_zero (by omega)
  subst this
  cases h
  exact ⟨by simp, fun x hx => by cases hx⟩
 | succ n ih =>
  intro v xs hv h
  match v, hv, h with
  | [], _, h => cases h; exact ⟨by simp, fun x hx => by cases hx⟩
  | [a], _, h => cases h; exact ⟨by simp, fun x hx => by cases hx⟩
  | a :: b :: r, hv, h =>
   unfold hexP at h
   cases hbad : (bif decide (hexI a < 0) then true else decide (hexI b < 0)) with
   | true => rw [hbad] at h; cases h
   | false =>
    rw [hbad] at h
    simp only [_root_.cond_false] at h
    obtain ⟨ys, hy, rfl⟩ := Option.map_eq_some_iff.1 h
    obtain ⟨h1, h2⟩ := ih r ys (by simp at hv; omega) hy
    refine ⟨by simp; omega, fun x hx => ?_⟩
    rcases List.mem_cons.1 hx with rfl | hx
    ·show 0 ≤ IntKind.wrap .u8 _ ∧ IntKind.wrap .u8 _ ≤ 255
     rw [IntKind.wrap_u8]
     omega
    ·exact h2 x hx
theorem hexD_ok {v : List UInt8} {p : Bool × List D} (h : hexD v = some p) : p.2.length ≤ v.length ∧ BytesOk p.2 := by
 unfold hexD at h
 cases h0 : v == ([45] : List UInt8) with
 | true => rw [h0] at h; cases h; exact ⟨by simp, fun x hx => by cases hx⟩
 | false =>
  rw [h0] at h
  simp only [_root_.cond_false] at h
  cases hc : decide (1 ≤ v.length) && decide (v.length % 2 = 0) with
  | false => rw [hc] at h; cases h
  | true =>
   rw [hc] at h
   simp only [_root_.cond_true] at h
   obtain ⟨ys, hy, rfl⟩ := Option.map_eq_some_iff.1 h
   exact hexP_ok v.length v ys (Nat.le_refl _) hy
def entD (e : Ent) : D := .a [.i e.1, .i e.2.1, .i e.2.2.1, .l e.2.2.2.1 e.2.2.2.2.1, .l e.2.2.2.2.2.1 e.2.2.2.2.2.2]
theorem bytes_nil : BytesOk [] := fun x hx => by cases hx
theorem entP_ok {v : List UInt8} {e : Ent} (hv : v.length ≤ 10000000) (h : entP v = some e) : EntD (entD e) := by
 have hM : maxLen = 9223372036854775807 := rfl
 have hpc : ∀ p ∈ splitL 32 v, p.length ≤ 10000000 := fun p hp => by have := splitL_piece hp; omega
 have hcount := splitL_length 32 v
 unfold entP at h
 generalize splitL 32 v = w at hpc hcount h
 match w, hpc, hcount, h with
 | [], _, _, h => cases h
 | [k], _, _, h => cases h
 | k :: a :: r, hpc, hcount, h =>
  rw [entW_cons] at h
  have data : ∀ (x : List UInt8) (f : Bool × LD → Ent), x ∈ k :: a :: r → (∀ p, (f p).2.2.2.2.1 = [] ∧ (f p).2.2.2.2.2.2 = p.2) → (hexD x).map f = some e → EntD (entD e) := by
   intro x f hx hf he
   obtain ⟨p, hp, rfl⟩ := Option.map_eq_some_iff.1 he
   obtain ⟨q1, q2⟩ := hexD_ok hp
   have := hpc x hx
   show EntL (f p).2.2.2.2.1 (f p).2.2.2.2.2.2
   rw [(hf p).1, (hf p).2]
   exact ⟨by simp, by omega, fun x hx => (by cases hx), q2⟩
  have mem : ∀ i, i < r.length → r.getD i [] ∈ k :: a :: r := fun i hi => by
   rw [List.getD_eq_getElem?_getD, List.getElem?_eq_getElem hi]
   simp
  cases h1 : k == sData && decide (r.length = 1) with
  | true =>
   rw [h1] at h
   simp only [_root_.cond_true] at h
   rw [Bool.and_eq_true, decide_eq_true_eq] at h1
   cases ha : rnB a with
   | false => rw [ha] at h; cases h
   | true =>
    rw [ha] at h
    exact data _ _ (mem 0 (by omega)) (fun p => ⟨rfl, rfl⟩) h
  | false =>
   rw [h1] at h
   simp only [_root_.cond_false] at h
   cases h2 : k == sShort && decide (r.length = 2) with
   | true =>
    rw [h2] at h
    simp only [_root_.cond_true] at h
    rw [Bool.and_eq_true, decide_eq_true_eq] at h2
    cases ha : rnB a && rnB (r.getD 0 []) with
    | false => rw [ha] at h; cases h
    | true =>
     rw [ha] at h
     exact data _ _ (mem 1 (by omega)) (fun p => ⟨rfl, rfl⟩) h
   | false =>
    rw [h2] at h
    simp only [_root_.cond_false] at h
    cases h3 : k == sDefine && decide (2 ≤ r.length) with
    | false => rw [h3] at h; cases h
    | true =>
     rw [h3] at h
     simp only [_root_.cond_true] at h
     cases h4 : rnB a && rnB (r.getD 0 []) && (r.getD 1 [] == sLittle || r.getD 1 [] == sBig) && (r.drop 2).all okW with
     | false => rw [h4] at h; cases h
     | true =>
      rw [h4] at h
      simp only [_root_.cond_true, Option.some.injEq] at h
      subst h
      refine ⟨by show 1 ≤ maxLen; omega, by show 0 ≤ maxLen; omega, fun x hx => ?_, bytes_nil⟩
      have hx : x ∈ [D.a [.b (r.getD 1 [] == sBig), .i (digV 0 (r.getD 0 [])), .l (r.drop 2).isEmpty ((r.drop 2).map fldW)]] := hx
      rw [List.mem_singleton] at hx
      subst hx
      show ((r.drop 2).map fldW).length ≤ maxLen
      rw [List.length_map, List.length_drop]
      simp at hcount
      omega
theorem parse_loop (hN : maxLen < N) : ∀ (m : Nat) (w : List UInt8) (i : Nat) (fl : Bool) (es : List D), w.length < m → i + w.length ≤ 10000000 → es.length ≤ i → (∀ x ∈ es, EntD x) →
  ∃ R, L5x0x15 N (R := Sum (Int × Bool × LD) (Bool × LD)) m w (i : Int) fl es (fun p => some (.inl p)) (fun p => some (.inr p)) = some R ∧
   L6x0x15 N (R := Sum (Int × Bool × LD) (Bool × LD)) m w (i : Int) fl es (fun p => some (.inl p)) (fun p => some (.inr p)) = some R ∧
   ∀ fl' es', R = .inr (fl', es') → (∀ x ∈ es', EntD x) ∧ es'.length ≤ 10000000 := by
 intro m
 induction m with
 | zero => intro w i fl es hm; omega
 | succ m ih =>
  intro w i fl es hm hi hes hen
  cases h0 : w == ([] : List UInt8) with
  | true =>
   simp only [L5x0x15, L6x0x15, S5x0x15, S6x0x15, h0, Bool.not_true, _root_.cond_false]
   refine ⟨_, rfl, rfl, fun fl' es' he => ?_⟩
   cases he
   exact ⟨hen, by omega⟩
  | false =>
   obtain ⟨p, g1, k1, k2⟩ := G12x0_eq hN (cutL w).1 (by have := cutL_fst w; omega)
   obtain ⟨q, g2, k3, k4⟩ := G14x0_eq hN (cutL w).1 (by have := cutL_fst w; omega)
   have hroom := roomOk (n := es.length) (k := 72) (by omega) (by omega)
   have hw2 : IntKind.wrap .i64 ((i : Int) + 1) = ((i + 1 : Nat) : Int) := wrapI (by omega) (by omega)
   simp only [L5x0x15, L6x0x15, S5x0x15, S6x0x15, h0, Bool.not_false, _root_.cond_true, G11x0_eq (N := N) w (by omega), bnd_eq, Option.isSome_some, getD_some, g1, g2, k1, k3]
   cases hc : (cutL w).2 with
   | none =>
    simp only [Option.isSome_none, Bool.not_false, _root_.cond_true]
    cases (entP (cutL w).1).isSome <;> exact ⟨_, rfl, rfl, fun fl' es' he => by cases he⟩
   | some b =>
    simp only [Option.isSome_some, Bool.not_true, _root_.cond_false]
    cases he : entP (cutL w).1 with
    | none => exact ⟨_, rfl, rfl, fun fl' es' he => by cases he⟩
    | some e =>
     have hp := k2 e he
     have hq := k4 e he
     have hl := cutL_len hc
     simp only [Option.isSome_some, Bool.not_true, _root_.cond_false, hroom, _root_.cond_true, hw2, getD_some]
     have ep : (D.a [.i p.1, .i p.2.1, .i p.2.2.1, .l p.2.2.2.1 p.2.2.2.2.1, .l p.2.2.2.2.2.1 p.2.2.2.2.2.2.1]) = entD e := by rw [← hp]; rfl
     have eq : (D.a [.i q.1, .i q.2.1, .i q.2.2.1, .l q.2.2.2.1 q.2.2.2.2.1, .l q.2.2.2.2.2.1 q.2.2.2.2.2.2.1]) = entD e := by rw [← hq]; rfl
     rw [ep, eq]
     refine ih b (i + 1) false (es ++ [entD e]) (by omega) (by omega) (by simp; omega) fun x hx => ?_
     rcases List.mem_append.1 hx with hx | hx
     ·exact hen x hx
     ·rw [List.mem_singleton] at hx
      subst hx
      exact entP_ok (by have := cutL_fst w; omega) he
theorem parse_eq (hN : maxLen < N) (v : List UInt8) : ∃ p : Bool × LD × Int × Int, G5x0 N v = some p ∧ G6x0 N v = some p ∧ Lst p.2.1 := by
 have hM : maxLen = 9223372036854775807 := rfl
 have lnil : Lst [] := ⟨fun x hx => (by cases hx), by simp⟩
 unfold G5x0 F5x0 G6x0 F6x0
 by_cases hl : (v.length : Int) > 10000000
 ·rw [decide_eq_true hl]
  exact ⟨(true, [], 0, 3), rfl, rfl, lnil⟩
 ·rw [decide_eq_false hl]
  simp only [_root_.cond_false]
  obtain ⟨R, q1, q2, q3⟩ := parse_loop hN N v 0 true [] (by omega) (by omega) (by simp) (fun x hx => by cases hx)
  have q1 : G5x0x15 N v 0 true [] = some R := q1
  have q2 : G6x0x15 N v 0 true [] = some R := q2
  rw [q1, q2]
  cases R with
  | inl p => exact ⟨(true, [], p.1, 6), rfl, rfl, lnil⟩
  | inr p =>
   obtain ⟨r1, r2⟩ := q3 p.1 p.2 rfl
   obtain ⟨c, c1, c2⟩ := check_file hN r1
   simp only [bnd_eq, inlB_inr, _root_.cond_false, inrQ_inr, Option.isSome_some, _root_.cond_true, getD_some, c1, c2]
   cases hc : c != 0 with
   | true => exact ⟨(true, [], 0, c), rfl, rfl, lnil⟩
   | false => exact ⟨(p.1, p.2, 0, 0), rfl, rfl, ⟨r1, r2⟩⟩
theorem law3 (hN : maxLen < N) (ht : G8x0 N = some true) (v : List UInt8) : G3x0 N v = some true := by
 obtain ⟨p, g1, g2, hl⟩ := parse_eq hN v
 unfold G3x0 F3x0
 rw [g1, g2]
 simp only [bnd_eq, Option.isSome_some, _root_.cond_true, getD_some]
 unfold G3x0x10 F3x0x10
 rw [G28_refl hN hl, ht]
 simp [bnd_eq]
end Go.Proofs.YthifhnmfecjjcaaGreatDoor

namespace Go.Proofs.YthifhnmfecjjcaaGreatDoor
open Go Go.AM
set_option maxRecDepth 100000
set_option maxHeartbeats 4000000
theorem told_ok : G8x0 18446744073709551616 = some true := by kernel_rfl
theorem kinds9 : kinds Tryz.prog 9 = [.str] := by kernel_rfl
theorem str1 {m : Nat} {d : D} (h : TyK Tryz.prog m .str d) : ∃ s, d = .s s ∧ s.length ≤ maxLen := by
 cases m with
 | zero => exact h.elim
 | succ m => exact h
theorem arg9 {m : Nat} {ds : List D} (h : ArgOk Tryz.prog m 9 ds) : ∃ s, ds = [.s s] := by
 unfold ArgOk at h
 rw [kinds9] at h
 obtain ⟨_, _, rfl, h0, h⟩ := all2_cons h
 obtain rfl := all2_nil h
 obtain ⟨s, rfl, _⟩ := str1 h0
 exact ⟨s, rfl⟩
theorem callLaw (m : Nat) (dss : List (List D)) (h : All2 (ArgOk Tryz.prog m) Tryz.f3.params.toList dss) : CallOk Tryz.prog 3 (argVs Tryz.prog Tryz.f3.params.toList dss) [] ([.c (.b true)], []) := by
 have hp : Tryz.f3.params.toList = [9] := by kernel_rfl
 rw [hp] at h ⊢
 match dss, h with
 | [d0], ⟨h0, _⟩ =>
  obtain ⟨s, rfl⟩ := arg9 h0
  refine ok3x0 18446744073709551616 _ _ (A3x0 18446744073709551616 [.s s]) (by kernel_rfl) _ ?_
  have e : A3x0 18446744073709551616 [.s s] = bnd (G3x0 18446744073709551616 s) fun q => [(q.isSome, ([.c (.b (q.getD default))], []))] := by kernel_rfl
  rw [e, law3 (by decide) told_ok s]
  rfl
theorem Tryz.own : ownKnob Tryz.prog.godebug = none := by kernel_rfl
theorem Tryz.laidOut : laidOutB Tryz.prog = true := by kernel_rfl
theorem bulkOk {H : Type} : BulkOk (Rows.uptoBulk : DataW H → Nat) Rows.uptoBulkAll := by
 refine ⟨fun l => ?_, fun l => ?_, ?_, fun e s => ?_, fun p => ?_, ?_, fun d r => ?_⟩
 ·cases l <;> simp [Rows.uptoBulk]
 ·simp [Rows.uptoBulk]
 ·simp [Rows.uptoBulk]
 ·simp only [Rows.uptoBulk]; omega
 ·simp [Rows.uptoBulk]
 ·simp [Rows.uptoBulkAll]
 ·simp [Rows.uptoBulkAll]
theorem g0 : Tryz.prog.globalNamed "internal/bytealg.MaxLen" = some 0 := by kernel_rfl
theorem g1 : Tryz.prog.globalNamed "internal/strconv.uint64pow10" = some 1 := by kernel_rfl
theorem g2 : Tryz.prog.globalNamed "strconv.ErrSyntax" = some 2 := by kernel_rfl
theorem g3 : Tryz.prog.globalNamed "strconv.ErrRange" = some 3 := by kernel_rfl
theorem giW {W : World} (hs : W.ShapedOpen Tryz.prog) (hl : laidMetH Tryz.prog Rows.recordParsesMatchSpecRow.laid W) {M : Stab} (hM : ∀ b o, ¬ M b o) : GI Tryz.prog M W := by
 have hl : laidMet Tryz.prog Rows.recordParsesMatchSpecRow.laid W := hl
 refine gi_of g0 g1 g2 g3 ?_ ?_ ?_ ?_ hM
 ·exact gat_int (t := 3) (zero := #[.int .i64 0]) hs (of_decide_eq_true (by kernel_rfl)) (by kernel_rfl) rfl (by kernel_rfl) (by kernel_rfl) (by kernel_rfl)
 ·obtain ⟨ps, hv, _⟩ := hl
  obtain ⟨g, t, cs, fuel, p, q1, q2, q3, q4⟩ := laid_get (x := ("internal/strconv.uint64pow10", Rows.laid_internal_strconv_uint64pow10)) hv (by simp [Rows.recordParsesMatchSpecRow])
  obtain rfl := Option.some.inj ((show (Tryz.prog.globals[1]?).map (·.type) = some 165 by kernel_rfl).symm.trans (by rw [Option.some.inj (g1.symm.trans q1)]; exact q2))
  have hcs := Lib.cells_of_tab (k := .u64) (zs := (List.range 20).map fun i => ((10 ^ i : Nat) : Int)) (n := 20) (e := 146) (t := 165) (by kernel_rfl) (by kernel_rfl) (by kernel_rfl) (by kernel_rfl) (show DataW.trod _ _ _ _ _ _ fuel 165 cs.toList = some (Lib.tabData .u64 ((List.range 20).map fun i => ((10 ^ i : Nat) : Int)), p) from q4)
  refine gat_tab (k := .u64) (zs := (List.range 20).map fun i => ((10 ^ i : Nat) : Int)) g1 (show W.var? Tryz.prog _ = _ by rw [q3, ← hcs]) (by simp) fun i p z h1 h2 => ?_
  rw [List.getElem?_map] at h1 h2
  obtain ⟨j, j1, rfl⟩ := Option.map_eq_some_iff.1 h1
  rw [j1] at h2
  simp only [Option.map_some, Option.some.injEq] at h2
  subst h2
  rfl
 ·exact gat_err (t := 67) hl (show ("strconv.ErrSyntax", Rows.laid_strconv_ErrSyntax) ∈ Rows.recordParsesMatchSpecRow.laid by simp [Rows.recordParsesMatchSpecRow]) g2 (by kernel_rfl) (by kernel_rfl)
 ·exact gat_err (t := 67) hl (show ("strconv.ErrRange", Rows.laid_strconv_ErrRange) ∈ Rows.recordParsesMatchSpecRow.laid by simp [Rows.recordParsesMatchSpecRow]) g3 (by kernel_rfl) (by kernel_rfl)
abbrev synS : ByteArray := { data := #[105, 110, 118, 97, 108, 105, 100, 32, 115, 121, 110, 116, 97, 120] }
abbrev rngS : ByteArray := { data := #[118, 97, 108, 117, 101, 32, 111, 117, 116, 32, 111, 102, 32, 114, 97, 110, 103, 101] }
noncomputable def low : Nat := (World.holding Tryz.prog default ⟨#[], #[], []⟩).heap.size
def tabOf {H : Type} : DataW H → Array Value
 | .agg l => (l.map fun | .lit (.int k n) => Value.int k n | _ => undef).toArray
 | _ => #[]
def setG (h : Array Obj) (g : Nat) (vs : Array Value) : Array Obj := h.modify g fun
 | .cells _ t fr => .cells vs t fr
 | o => o
def flatOf {H : Type} : DataW H → Array Value
 | .agg l => (l.flatMap fun | .agg r => r.map (fun | .lit (.int k n) => Value.int k n | _ => undef) | _ => []).toArray
 | _ => #[]
noncomputable def laidWorld (os : Os) : World :=
 let w0 := World.holding Tryz.prog os ⟨#[.cells #[.string synS] 183, .cells #[.string rngS] 183], #[], []⟩
 { w0 with heap := setG (setG (setG (setG (setG (setG (setG w0.heap 1 (tabOf (H := Unit) Rows.laid_internal_strconv_uint64pow10)) 2 #[.iface 181 (.pointer (some ⟨low, 0, none⟩))]) 3 #[.iface 181 (.pointer (some ⟨low + 1, 0, none⟩))])
   6 (tabOf (H := Unit) Rows.laid_math_bits_deBruijn32tab)) 7 (tabOf (H := Unit) Rows.laid_math_bits_deBruijn64tab)) 4 (tabOf Rows.laid_unicode_utf8_first)) 5 (flatOf (H := Unit) Rows.laid_unicode_utf8_acceptRanges) }
def arg0 : Value := .string ⟨#[]⟩
def dat0 {H : Type} : DataW H := .lit (.string [])
theorem laid_met (os : Os) : laidMet Tryz.prog Rows.recordParsesMatchSpecRow.laid ((laidWorld os).forCall (fun _ _ => 0) ⟨#[], #[arg0], []⟩).memory :=
 laidMet_of_run' 8 (by kernel_rfl) (by kernel_rfl)
theorem reads (os : Os) {H : Type} (enc : TypeId × Value → H) : ∃ places, DataW.whole enc Tryz.prog ((laidWorld os).forCall (fun _ _ => 0) ⟨#[], #[arg0], []⟩).memory Tryz.f3.params.toList Rows.recordParsesMatchSpecSpec.vars false #[arg0].toList 8 = some ([dat0], [], places) :=
 ⟨[], by kernel_rfl⟩
theorem lifted (os : Os) (started : os.Started) (H : Type) (enc : TypeId × Value → H) (F : Stop.Interp) :
  ReturnsInHanded {} Tryz.checked os 3 .any ((OpenSpec.ofChange Rows.recordParsesMatchSpecSpec).preRow enc Tryz.prog Tryz.f3 Rows.recordParsesMatchSpecRow.domain false Rows.recordParsesMatchSpecRow.laid) (((OpenSpec.ofChange Rows.recordParsesMatchSpecSpec).at F).post enc Tryz.prog Tryz.f3 false true false false) := by
 obtain ⟨places, hx⟩ := reads os enc
 refine returnsInHanded_of_row (C := Tryz.checked) (s := OpenSpec.ofChange Rows.recordParsesMatchSpecSpec) Tryz.own started (by kernel_rfl) Tryz.func3
  (witness_row_at (enc := enc) (C := Tryz.checked) false (laidWorld os) #[arg0] rfl (by kernel_rfl) (by kernel_rfl) (by kernel_rfl)
   (OpenSpec.preRow_of_cond 8 hx (by kernel_rfl) (fun k hk => by cases hk) (by kernel_rfl) (laid_met os))) ?_
 intro W base args ds gs before hval hW _ _ _ hL hsh _
 exact law_callR (tb := 4) bulkOk [] (by kernel_rfl) Tryz.laidOut rfl (by kernel_rfl) (by kernel_rfl) (by kernel_rfl) (fun l hl => by
  rw [show Tryz.f3.params.size = 1 by kernel_rfl] at hl
  match l, hl with
  | [_], _ => rfl) (fun m dss h _ => callLaw m dss h) (fun hM => giW hsh hL hM) hval hW
end Go.Proofs.YthifhnmfecjjcaaGreatDoor

