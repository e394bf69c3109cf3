/- A part of a proof of a law: lemmas. Conditions: those of each lemma. -/
import Derived.Test.YthifhnmfecjjcaaGreatDoorTRp2
import Derived.KernelRfl
import Derived.Test.YthifhnmfecjjcaaGreatDoorCards
import Derived.Test.YthifhnmfecjjcaaGreatDoorTie
import Derived.Deep.DeepHandedRow
import Derived.ProofKit
set_option linter.all false
set_option maxRecDepth 100000
namespace Go.Proofs.YthifhnmfecjjcaaGreatDoor
open Go Go.AM
set_option maxRecDepth 100000
set_option maxHeartbeats 4000000
variable {N : Nat}
def inI (n a b : Int) : Bool := decide (a ≤ n ∧ n ≤ b)
theorem V61x0_eq (n a b : Int) : V61x0 N n a b = inI n a b := by
 unfold V61x0 F61x0 inI
 rw [Bool.eq_iff_iff]; simp
theorem V66x0_eq (n a b : Int) : V66x0 N n a b = !inI n a b := by
 unfold V66x0 F66x0 inI
 rw [Bool.eq_iff_iff]; simp <;> omega
def firstE (e : Int → Int) : Int → List D → Int
 | _, [] => 0
 | w, _ :: r => bif e w != 0 then e w else firstE e (w + 1) r
def wayE (n : Int) : Sum Int Unit := bif n != 0 then .inl n else .inr ()
theorem wayE_cons {e : Int → Int} {w : Int} {x : D} {l : List D} : wayE (firstE e w (x :: l)) = bif e w != 0 then .inl (e w) else wayE (firstE e (w + 1) l) := by
 simp only [firstE]
 cases h : e w != 0 with
 | true => simp only [_root_.cond_true, wayE, h]
 | false => rfl
section
variable {xs : List D} {w : Int}
end
theorem way_do {α : Type} (n : Int) (k0 : Int → α) (k1 : α) (z : α) : (bif inlB (some (wayE n)) then k0 (inlV (some (wayE n))) else bif (inrQ (some (wayE n))).isSome then k1 else z) = bif n != 0 then k0 n else k1 := by
 unfold wayE
 cases n != 0 <;> rfl
section
variable {name : List UInt8} {sport start : Int} {smps laps tags : List D}
end
end Go.Proofs.YthifhnmfecjjcaaGreatDoor

namespace Go.Proofs.YthifhnmfecjjcaaGreatDoor
open Go Go.AM
set_option maxRecDepth 100000
set_option maxHeartbeats 4000000
variable {N : Nat}
def zipAll (f : D → D → Bool) : List D → List D → Bool
 | x :: r, y :: s => f x y && zipAll f r s
 | _, _ => true
theorem zip_ind {xs ys : List D} (f : D → D → Bool) {S : Int → (Int → Option (Sum Unit Unit)) → Option (Sum Unit Unit)} {L : Nat → Int → Option (Sum Unit Unit)} (hL : ∀ m a, L (m + 1) a = S a (L m)) (hlen : xs.length ≤ maxLen) (hxy : xs.length = ys.length)
  (hend : ∀ kr, S xs.length kr = some (.inr ()))
  (hstep : ∀ (w : Int) (kr : Int → Option (Sum Unit Unit)), decide (w < xs.length) = true → inB w xs.length = true → inB w ys.length = true → S w kr = bif f (xs.getD w.toNat (.i 0)) (ys.getD w.toNat (.i 0)) then kr (IntKind.wrap .i64 (w + 1)) else some (.inl ()))
  (hN : maxLen < N) : L N 0 = some (bif zipAll f xs ys then .inr () else .inl ()) := by
 refine (for_ind (.i 0 : D) hL (fun w l => some (bif zipAll f l (ys.drop w.toNat) then .inr () else .inl ())) hlen ?_ ?_ hN).trans (by simp)
 ·intro kr; rw [hend]; simp [zipAll]
 ·intro w kr h0 h1 hw hi hk
  have h2 : w < ys.length := by omega
  rw [hstep w kr (decide_eq_true h1) hi (inB_of h0 (by omega)), hw, hk, drop_at (.i 0) (xs := ys) h0 h2]
  simp only [zipAll]
  cases f (xs.getD w.toNat (.i 0)) (ys.getD w.toNat (.i 0)) <;> rfl
section
variable {xs ys : List D}
end
section
variable {n n' : List UInt8} {sp st sp' st' : Int} {s l t s' l' t' : List D}
end
end Go.Proofs.YthifhnmfecjjcaaGreatDoor

namespace Go.Proofs.YthifhnmfecjjcaaGreatDoor
open Go Go.AM
set_option maxRecDepth 100000
set_option maxHeartbeats 4000000
variable {N : Nat}
theorem loop_indE {A X : Type} {S : A → (A → X) → X} {L : Nat → A → X} (hL : ∀ m a, L (m + 1) a = S a (L m)) (P : A → X → Prop) (Inv : A → Prop) (μ : A → Nat)
  (h : ∀ a kr, Inv a → (∀ a', Inv a' → μ a' < μ a → P a' (kr a')) → P a (S a kr)) : ∀ (m : Nat) (a : A), Inv a → μ a < m → P a (L m a) := by
 intro m
 induction m with
 | zero => intro a _ h; omega
 | succ m ih => intro a ha hm; rw [hL]; exact h a (L m) ha fun a' h1 h2 => ih a' h1 (by omega)
def fN (f : D) : Int := (f.cell 0).toI
def fS (f : D) : Int := (f.cell 1).toI
def fT (f : D) : Int := (f.cell 2).toI
def isT (f : D) : Bool := (fN f == 253) && (fT f == 0) && (fS f == 4)
def hasN (n : Int) (l : List D) : Bool := l.any fun f => fN f == n
def fldE (fs : List D) (w : Int) : Int :=
 bif !(inI (fN (fs.getD w.toNat (.i 0))) 0 255) || !(inI (fS (fs.getD w.toNat (.i 0))) 1 255) then 9 else bif !inI (fT (fs.getD w.toNat (.i 0))) 0 3 then 7 else
 bif decide (fT (fs.getD w.toNat (.i 0)) ≤ 1) && (fS (fs.getD w.toNat (.i 0)) != 1) && (fS (fs.getD w.toNat (.i 0)) != 2) && (fS (fs.getD w.toNat (.i 0)) != 4) then 2 else
 bif hasN (fN (fs.getD w.toNat (.i 0))) (fs.take w.toNat) then 5 else 0
def defE (g : Int) (fs : List D) : Int := bif !inI g 0 65535 then 9 else bif decide ((fs.length : Int) > 30) then 3 else firstE (fldE fs) 0 fs
theorem G107x0_eq (hN : maxLen < N) {xs : List D} {n : Int} (hs : xs.length ≤ maxLen) : ∃ i : Int, G107x0 N xs n = some i ∧ decide (i ≥ 0) = hasN n xs := by
 have h : G107x0x6 N xs xs.length n 0 = some (match xs.findIdx? fun d => fN d == n with | some j => .inl (j : Int) | none => .inr ()) := by
  unfold G107x0x6
  refine (for_ind (.i 0 : D) (S := fun w kr => S107x0x6 N xs xs.length n w kr _ _) (L := fun m w => L107x0x6 N xs xs.length n m w _ _) (fun m w => rfl) (fun w l => some (match l.findIdx? fun d => fN d == n with | some j => .inl (w + (j : Int)) | none => .inr ())) hs ?_ ?_ hN).trans (by simp)
  ·intro kr; simp [S107x0x6]
  ·intro w kr h0 h1 hw hi hk
   simp only [S107x0x6, V89x0, F89x0, decide_eq_true h1, _root_.cond_true, hi, bnd_eq, hw, hk, List.findIdx?_cons]
   show (bif (fN (xs.getD w.toNat (.i 0)) == n) then _ else _) = _
   cases fN (xs.getD w.toNat (.i 0)) == n with
   | true => simp
   | false =>
    simp only [_root_.cond_false, Bool.false_eq_true, if_false]
    cases (xs.drop (w + 1).toNat).findIdx? fun d => fN d == n with
    | none => rfl
    | some j => simp; omega
 unfold G107x0 F107x0
 rw [h]
 have hl : hasN n xs = (xs.findIdx? fun d => fN d == n).isSome := by
  rw [List.findIdx?_isSome]; rfl
 rw [hl]
 cases xs.findIdx? fun d => fN d == n with
 | none => exact ⟨-1, rfl, rfl⟩
 | some j => exact ⟨j, rfl, by simp⟩
theorem G88x0_eq (hN : maxLen < N) {xs : List D} {n : Int} (hs : xs.length ≤ maxLen) : G88x0 N xs n = some (hasN n xs) := by
 obtain ⟨i, h1, h2⟩ := G107x0_eq hN (n := n) hs
 unfold G88x0 F88x0
 rw [h1]
 simp only [bnd_eq, Option.isSome_some, _root_.cond_true, getD_some, h2]
theorem G67x0x45_eq (hN : maxLen < N) {xs : List D} {n : Int} (hs : xs.length ≤ maxLen) : G67x0x45 N xs xs.length n 0 = some (bif hasN n xs then .inl () else .inr ()) := by
 unfold G67x0x45
 refine (for_ind (.i 0 : D) (S := fun w kr => S67x0x45 N xs xs.length n w kr _ _) (L := fun m w => L67x0x45 N xs xs.length n m w _ _) (fun m w => rfl) (fun _ l => some (bif hasN n l then .inl () else .inr ())) hs ?_ ?_ hN).trans rfl
 ·intro kr; simp [S67x0x45, hasN]
 ·intro w kr h0 h1 hw hi hk
  simp only [S67x0x45, decide_eq_true h1, _root_.cond_true, hi, hw, hk, hasN, List.any_cons]
  show (bif (fN (xs.getD w.toNat (.i 0)) == n) then _ else _) = _
  cases fN (xs.getD w.toNat (.i 0)) == n <;> rfl
section
variable {fs : List D} {w : Int}
theorem take_ok (h0 : 0 ≤ w) (h1 : w < fs.length) : (decide (0 ≤ w) && decide (w ≤ (fs.length : Int))) = true := by
 rw [decide_eq_true h0, decide_eq_true (by omega)]; rfl
theorem G62x0x18_eq (hN : maxLen < N) (hl : fs.length ≤ maxLen) : G62x0x18 N fs fs.length fs 0 = some (wayE (firstE (fldE fs) 0 fs)) := by
 unfold G62x0x18
 refine (for_ind (.i 0 : D) (S := fun w kr => S62x0x18 N fs fs.length fs w kr _ _) (L := fun m w => L62x0x18 N fs fs.length fs m w _ _) (fun m w => rfl) (fun w l => some (wayE (firstE (fldE fs) w l))) hl ?_ ?_ hN).trans rfl
 ·intro kr; simp [S62x0x18, firstE, wayE]
 ·intro w kr h0 h1 hw hi hk
  have hm := G88x0_eq hN (xs := fs.take w.toNat) (n := fN (fs.getD w.toNat (.i 0))) (by simp; omega)
  simp only [S62x0x18, decide_eq_true h1, _root_.cond_true, hi, bnd_eq, hw, hk, take_ok h0 h1, List.drop_zero, V62x0x28, F62x0x28, V61x0_eq, wayE_cons]
  rw [show (((fs.getD w.toNat (.i 0)).cell 0).toI) = fN (fs.getD w.toNat (.i 0)) from rfl, hm]
  unfold fldE
  generalize hasN (fN (fs.getD w.toNat (.i 0))) (fs.take w.toNat) = hh
  generalize fs.getD w.toNat (.i 0) = f
  rw [show ((f.cell 1).toI) = fS f from rfl, show ((f.cell 2).toI) = fT f from rfl]
  simp only [Option.isSome_some, getD_some, _root_.cond_true]
  cases inI (fN f) 0 255 <;> try rfl
  cases inI (fS f) 1 255 <;> try rfl
  cases h3 : inI (fT f) 0 3 <;> try rfl
  have e : (bif fT f == 0 then true else fT f == 1) = decide (fT f ≤ 1) := by
   unfold inI at h3
   rw [Bool.eq_iff_iff]; simp at h3 ⊢
   by_cases h : fT f = 0 <;> simp [h] <;> omega
  rw [e]
  cases decide (fT f ≤ 1) <;> cases (fS f != 1) <;> cases (fS f != 2) <;> cases (fS f != 4) <;> cases hh <;> rfl
theorem G67x0x18_eq (hN : maxLen < N) (hl : fs.length ≤ maxLen) : G67x0x18 N fs fs.length fs 0 = some (wayE (firstE (fldE fs) 0 fs)) := by
 unfold G67x0x18
 refine (for_ind (.i 0 : D) (S := fun w kr => S67x0x18 N fs fs.length fs w kr _ _) (L := fun m w => L67x0x18 N fs fs.length fs m w _ _) (fun m w => rfl) (fun w l => some (wayE (firstE (fldE fs) w l))) hl ?_ ?_ hN).trans rfl
 ·intro kr; simp [S67x0x18, firstE, wayE]
 ·intro w kr h0 h1 hw hi hk
  have hm := G67x0x45_eq hN (xs := fs.take w.toNat) (n := fN (fs.getD w.toNat (.i 0))) (by simp; omega)
  simp only [S67x0x18, decide_eq_true h1, _root_.cond_true, hi, bnd_eq, hw, hk, take_ok h0 h1, List.drop_zero, V67x0x25, F67x0x25, V66x0_eq, wayE_cons]
  rw [show (((fs.getD w.toNat (.i 0)).cell 0).toI) = fN (fs.getD w.toNat (.i 0)) from rfl, hm]
  unfold fldE
  generalize hasN (fN (fs.getD w.toNat (.i 0))) (fs.take w.toNat) = hh
  generalize fs.getD w.toNat (.i 0) = f
  rw [show ((f.cell 1).toI) = fS f from rfl, show ((f.cell 2).toI) = fT f from rfl]
  cases inI (fN f) 0 255 <;> cases inI (fS f) 1 255 <;> cases inI (fT f) 0 3 <;> try rfl
  cases decide (fT f ≤ 1) <;> cases (fS f != 1) <;> cases (fS f != 2) <;> cases (fS f != 4) <;> cases hh <;> rfl
theorem G62x0_eq (hN : maxLen < N) (g : Int) (hl : fs.length ≤ maxLen) : G62x0 N g fs = some (defE g fs) := by
 unfold G62x0 F62x0 defE
 simp only [bnd_eq, V61x0_eq, G62x0x18_eq hN hl, way_do]
 cases inI g 0 65535 <;> cases decide ((fs.length : Int) > 30) <;> try rfl
 cases h : firstE (fldE fs) 0 fs != 0 <;> first | rfl | (simp only [bne_eq_false_iff_eq] at h; simp [h])
theorem G67x0_eq (hN : maxLen < N) (g : Int) (hl : fs.length ≤ maxLen) : G67x0 N g fs = some (defE g fs) := by
 unfold G67x0 F67x0 defE
 simp only [bnd_eq, V66x0_eq, G67x0x18_eq hN hl, way_do]
 cases inI g 0 65535 <;> cases decide ((fs.length : Int) > 30) <;> try rfl
 cases h : firstE (fldE fs) 0 fs != 0 <;> first | rfl | (simp only [bne_eq_false_iff_eq] at h; simp [h])
end
structure FldsOk (fs : List D) : Prop where
 len : fs.length ≤ 255
 size : ∀ f ∈ fs, 0 ≤ fS f ∧ fS f ≤ 255
theorem firstE_zero {e : Int → Int} : ∀ {l : List D} {w : Int}, firstE e w l = 0 → ∀ i : Nat, i < l.length → e (w + i) = 0
 | [], w, _, i, hi => by simp at hi
 | x :: r, w, h, i, hi => by
  simp only [firstE] at h
  cases he : e w != 0 with
  | true =>
   rw [he] at h
   simp only [_root_.cond_true] at h
   rw [h] at he
   simp at he
  | false =>
   rw [he] at h
   cases i with
   | zero => simpa using he
   | succ i =>
    have := firstE_zero (l := r) (w := w + 1) h i (by simpa using hi)
    rw [show w + ((i + 1 : Nat) : Int) = w + 1 + (i : Int) by omega]
    exact this
theorem defE_ok {g : Int} {fs : List D} (h : defE g fs = 0) : FldsOk fs := by
 unfold defE at h
 cases h1 : inI g 0 65535 with
 | false => rw [h1] at h; exact absurd (show (9 : Int) = 0 from h) (by decide)
 | true =>
  rw [h1] at h
  cases h2 : decide ((fs.length : Int) > 30) with
  | true => rw [h2] at h; exact absurd (show (3 : Int) = 0 from h) (by decide)
  | false =>
   rw [h2] at h
   simp only [Bool.not_true, _root_.cond_false] at h
   refine ⟨by simp at h2; omega, fun f hf => ?_⟩
   obtain ⟨i, hi, rfl⟩ := List.getElem_of_mem hf
   have := firstE_zero h i hi
   rw [Int.zero_add] at this
   unfold fldE at this
   have hg : fs.getD ((i : Int)).toNat (.i 0) = fs[i] := by
    rw [List.getD_eq_getElem?_getD, Int.toNat_natCast, List.getElem?_eq_getElem hi]; rfl
   rw [hg] at this
   cases h3 : inI (fS fs[i]) 1 255 with
   | false =>
    rw [h3] at this
    cases inI (fN fs[i]) 0 255 <;> exact absurd (show (9 : Int) = 0 from by simpa using this) (by decide)
   | true => unfold inI at h3; simp at h3; omega
def szL : List D → Int
 | [] => 0
 | f :: r => fS f + szL r
def tmL : Int → List D → Int
 | _, [] => -1
 | a, f :: r => bif isT f then a else tmL (a + fS f) r
def flds : Bool → List D → List D
 | _, [] => []
 | t, f :: r => bif t && isT f then flds false r else .a [.i (fN f), .i (fS f), .i (fT f)] :: flds t r
theorem szL_bound : ∀ {fs : List D}, (∀ f ∈ fs, 0 ≤ fS f ∧ fS f ≤ 255) → 0 ≤ szL fs ∧ szL fs ≤ 255 * fs.length
 | [], _ => by simp [szL]
 | f :: r, h => by
  have h1 := h f (by simp)
  have h2 := szL_bound (fs := r) fun x hx => h x (by simp [hx])
  simp only [szL, List.length_cons]
  omega
theorem tmL_bound : ∀ {fs : List D} {a : Int}, 0 ≤ a → (∀ f ∈ fs, 0 ≤ fS f ∧ fS f ≤ 255) → (tmL a fs = -1 ∨ a ≤ tmL a fs ∧ tmL a fs + 4 ≤ a + szL fs)
 | [], _, _, _ => .inl rfl
 | f :: r, a, ha, h => by
  have h1 := h f (by simp)
  simp only [tmL, szL]
  cases ht : isT f with
  | true =>
   have h2 := szL_bound (fs := r) fun x hx => h x (by simp [hx])
   have h3 : fS f = 4 := by unfold isT at ht; simp at ht; exact ht.2
   right; simp only [_root_.cond_true]; omega
  | false =>
   simp only [_root_.cond_false]
   rcases tmL_bound (fs := r) (a := a + fS f) (by omega) (fun x hx => h x (by simp [hx])) with h2 | h2
   ·exact .inl h2
   ·right; omega
theorem szL_flds_false : ∀ fs : List D, szL (flds false fs) = szL fs
 | [] => rfl
 | f :: r => by simp only [flds, Bool.false_and, _root_.cond_false, szL, szL_flds_false r]; rfl
theorem szL_flds : ∀ {fs : List D} {a : Int}, 0 ≤ a → (∀ f ∈ fs, 0 ≤ fS f ∧ fS f ≤ 255) → (tmL a fs < 0 → szL (flds true fs) = szL fs) ∧ (0 ≤ tmL a fs → szL (flds true fs) = szL fs - 4)
 | [], _, _, _ => ⟨fun _ => rfl, fun h => absurd (show (0 : Int) ≤ -1 from h) (by decide)⟩
 | f :: r, a, ha, h => by
  have h1 := h f (by simp)
  have e : fS (.a [.i (fN f), .i (fS f), .i (fT f)]) = fS f := rfl
  cases ht : isT f with
  | true =>
   have h3 : fS f = 4 := by unfold isT at ht; simp at ht; exact ht.2
   simp only [flds, tmL, szL, ht, Bool.and_self, _root_.cond_true, szL_flds_false]
   constructor <;> intro h4 <;> omega
  | false =>
   have h5 := szL_flds (fs := r) (a := a + fS f) (by omega) fun x hx => h x (by simp [hx])
   simp only [flds, tmL, szL, ht, Bool.and_false, _root_.cond_false, e]
   exact ⟨fun h4 => by rw [h5.1 h4], fun h4 => by rw [h5.2 h4]; omega⟩
section
variable {fs : List D}
theorem getD_mem {w : Int} (h0 : 0 ≤ w) (h1 : w < fs.length) : fs.getD w.toNat (.i 0) ∈ fs := by
 rw [List.getD_eq_getElem?_getD, List.getElem?_eq_getElem (by omega)]; exact List.getElem_mem _
theorem isT_eq (f : D) : (bif (bif ((f.cell 0).toI == 253) then ((f.cell 2).toI == 0) else false) then ((f.cell 1).toI == 4) else false) = isT f := by
 unfold isT fN fT fS
 cases (f.cell 0).toI == 253 <;> cases (f.cell 2).toI == 0 <;> rfl
theorem V90x0_eq (f : D) : V90x0 N (f.cell 0).toI (f.cell 1).toI (f.cell 2).toI = isT f := isT_eq f
theorem G63x0_eq (hN : maxLen < N) (h : FldsOk fs) : G63x0 N fs = some (szL fs, tmL 0 fs) := by
 have hm : maxLen = 9223372036854775807 := rfl
 have hl := h.len
 have key := loop_ind (A := Int × Int × Int) (X := Option (Int × Int)) (S := fun x kr => S63x0x9 N fs fs.length x.1 x.2.1 x.2.2 (fun a b c => kr (a, b, c)) (fun p => some p)) (L := fun m x => L63x0x9 N fs fs.length m x.1 x.2.1 x.2.2 (fun p => some p)) (fun m x => rfl)
  (fun x => some (x.2.1 + szL (fs.drop x.1.toNat), bif decide (x.2.2 < 0) then tmL x.2.1 (fs.drop x.1.toNat) else x.2.2)) (fun x => 0 ≤ x.1 ∧ x.1 ≤ fs.length ∧ 0 ≤ x.2.1 ∧ x.2.1 ≤ 255 * x.1 ∧ -1 ≤ x.2.2) (fun x => (fs.length - x.1).toNat) ?_ N (0, 0, -1) ⟨by decide, by show (0 : Int) ≤ _; omega, by decide, by decide, by decide⟩ (by simp; omega)
 ·have k2 : G63x0x9 N fs fs.length 0 0 (-1) = some (szL fs, tmL 0 fs) := by
   refine Eq.trans key ?_
   simp
  unfold G63x0 F63x0
  rw [k2]; rfl
 ·rintro ⟨w, sz, t⟩ kr ⟨h0, h1, h2, h3, h4⟩ ih
  simp only at h0 h1 h2 h3 h4 ih ⊢
  unfold S63x0x9
  by_cases hw : w < fs.length
  ·have hf := h.size _ (getD_mem h0 hw)
   rw [decide_eq_true hw, inB_of h0 hw, drop_at (.i 0) h0 hw]
   simp only [_root_.cond_true, bnd_eq, V63x0x20, F63x0x20]
   rw [isT_eq]
   have e1 : ((fs.getD w.toNat (.i 0)).cell 1).toI = fS (fs.getD w.toNat (.i 0)) := rfl
   rw [e1, wrapI (x := sz + _) (by omega) (by omega), wrapI (x := w + 1) (by omega) (by omega)]
   rw [ih (w + 1, _, _) ⟨by omega, by omega, by simp only; omega, by simp only; omega, by simp only; cases isT (fs.getD w.toNat (.i 0)) <;> cases decide (t < 0) <;> simp <;> omega⟩ (by simp only; omega)]
   simp only [szL, tmL]
   cases ht : isT (fs.getD w.toNat (.i 0)) with
   | true =>
    by_cases hneg : t < 0
    ·simp only [decide_eq_true hneg, _root_.cond_true, decide_eq_false (show ¬ sz < 0 by omega), _root_.cond_false, Option.some.injEq, Prod.mk.injEq, and_true]; omega
    ·simp only [decide_eq_false hneg, _root_.cond_true, _root_.cond_false, Option.some.injEq, Prod.mk.injEq, and_true]; omega
   | false =>
    simp only [_root_.cond_false, Option.some.injEq, Prod.mk.injEq]
    refine ⟨by omega, ?_⟩
    by_cases hneg : t < 0 <;> simp [hneg]
  ·have : w = fs.length := by omega
   subst this
   rw [decide_eq_false hw, drop_end (by omega)]
   simp only [_root_.cond_false, szL, tmL, Int.add_zero, Option.some.injEq, Prod.mk.injEq, true_and]
   by_cases ht : t < 0
   ·rw [decide_eq_true ht]; simp only [_root_.cond_true]; omega
   ·rw [decide_eq_false ht]; rfl
def tmW (n : Int) : Sum Int Unit := bif decide (n < 0) then .inr () else .inl n
theorem G68x0_eq (hN : maxLen < N) (h : FldsOk fs) : G68x0 N fs = some (bif decide (tmL 0 fs < 0) then (0, false) else (tmL 0 fs, true)) := by
 have hm : maxLen = 9223372036854775807 := rfl
 have hl := h.len
 have key := loop_ind (A := Int × Int) (X := Option (Sum Int Unit)) (S := fun x kr => S68x0x9 N fs fs.length x.1 x.2 (fun a b => kr (a, b)) (fun p => some (.inl p)) (fun p => some (.inr p))) (L := fun m x => L68x0x9 N fs fs.length m x.1 x.2 (fun p => some (.inl p)) (fun p => some (.inr p))) (fun m x => rfl)
  (fun x => some (tmW (tmL x.1 (fs.drop x.2.toNat)))) (fun x => 0 ≤ x.2 ∧ x.2 ≤ fs.length ∧ 0 ≤ x.1 ∧ x.1 ≤ 255 * x.2) (fun x => (fs.length - x.2).toNat) ?_ N (0, 0) ⟨by decide, by show (0 : Int) ≤ _; omega, by decide, by decide⟩ (by simp; omega)
 ·have k2 : G68x0x9 N fs fs.length 0 0 = some (tmW (tmL 0 fs)) := by
   refine Eq.trans key ?_
   simp
  unfold G68x0 F68x0
  rw [k2]
  unfold tmW
  cases decide (tmL 0 fs < 0) <;> rfl
 ·rintro ⟨sz, w⟩ kr ⟨h0, h1, h2, h3⟩ ih
  simp only at h0 h1 h2 h3 ih ⊢
  unfold S68x0x9
  by_cases hw : w < fs.length
  ·have hf := h.size _ (getD_mem h0 hw)
   rw [decide_eq_true hw, inB_of h0 hw, drop_at (.i 0) h0 hw]
   simp only [_root_.cond_true, bnd_eq, V90x0_eq]
   have e1 : ((fs.getD w.toNat (.i 0)).cell 1).toI = fS (fs.getD w.toNat (.i 0)) := rfl
   rw [e1, wrapI (x := sz + _) (by omega) (by omega), wrapI (x := w + 1) (by omega) (by omega)]
   simp only [tmL]
   cases ht : isT (fs.getD w.toNat (.i 0)) with
   | true => simp only [_root_.cond_true]; unfold tmW; rw [decide_eq_false (by omega)]; rfl
   | false =>
    simp only [_root_.cond_false]
    exact ih (sz + fS (fs.getD w.toNat (.i 0)), w + 1) ⟨by omega, by omega, by simp only; omega, by simp only; omega⟩ (by simp only; omega)
  ·have : w = fs.length := by omega
   subst this
   rw [decide_eq_false hw, drop_end (by omega)]
   rfl
theorem G69x0_eq (hN : maxLen < N) (h : FldsOk fs) : G69x0 N fs = some (szL fs) := by
 have hm : maxLen = 9223372036854775807 := rfl
 have hl := h.len
 have key := loop_ind (A := Int × Int) (X := Option Int) (S := fun x kr => S69x0x9 N fs fs.length x.1 x.2 (fun a b => kr (a, b)) (fun p => some p)) (L := fun m x => L69x0x9 N fs fs.length m x.1 x.2 (fun p => some p)) (fun m x => rfl)
  (fun x => some (x.1 + szL (fs.drop x.2.toNat))) (fun x => 0 ≤ x.2 ∧ x.2 ≤ fs.length ∧ 0 ≤ x.1 ∧ x.1 ≤ 255 * x.2) (fun x => (fs.length - x.2).toNat) ?_ N (0, 0) ⟨by decide, by show (0 : Int) ≤ _; omega, by decide, by decide⟩ (by simp; omega)
 ·have k2 : G69x0x9 N fs fs.length 0 0 = some (szL fs) := by
   refine Eq.trans key ?_
   simp
  unfold G69x0 F69x0
  rw [k2]; rfl
 ·rintro ⟨sz, w⟩ kr ⟨h0, h1, h2, h3⟩ ih
  simp only at h0 h1 h2 h3 ih ⊢
  unfold S69x0x9
  by_cases hw : w < fs.length
  ·have hf := h.size _ (getD_mem h0 hw)
   rw [decide_eq_true hw, inB_of h0 hw, drop_at (.i 0) h0 hw]
   simp only [_root_.cond_true, bnd_eq]
   have e1 : ((fs.getD w.toNat (.i 0)).cell 1).toI = fS (fs.getD w.toNat (.i 0)) := rfl
   rw [e1, wrapI (x := sz + _) (by omega) (by omega), wrapI (x := w + 1) (by omega) (by omega)]
   rw [ih (sz + fS (fs.getD w.toNat (.i 0)), w + 1) ⟨by omega, by omega, by simp only; omega, by simp only; omega⟩ (by simp only; omega)]
   simp only [szL, Option.some.injEq]; omega
  ·have : w = fs.length := by omega
   subst this
   rw [decide_eq_false hw, drop_end (by omega)]
   simp only [_root_.cond_false, szL, Int.add_zero]
theorem flds_ok : ∀ {fs : List D} {t : Bool}, (∀ f ∈ fs, 0 ≤ fS f ∧ fS f ≤ 255) → (flds t fs).length ≤ fs.length ∧ ∀ f ∈ flds t fs, 0 ≤ fS f ∧ fS f ≤ 255
 | [], _, _ => by simp [flds]
 | f :: r, t, h => by
  have h1 := h f (by simp)
  have h2 : ∀ t, _ := fun t => flds_ok (fs := r) (t := t) fun x hx => h x (by simp [hx])
  simp only [flds]
  cases t && isT f with
  | true => simp only [_root_.cond_true, List.length_cons]; exact ⟨by have := (h2 false).1; omega, (h2 false).2⟩
  | false =>
   simp only [_root_.cond_false, List.length_cons]
   refine ⟨by have := (h2 t).1; omega, fun x hx => ?_⟩
   rcases List.mem_cons.1 hx with rfl | hx
   ·exact h1
   ·exact (h2 t).2 x hx
theorem FldsOk.flds (h : FldsOk fs) (t : Bool) : FldsOk (flds t fs) := ⟨Nat.le_trans (flds_ok h.size).1 h.len, (flds_ok h.size).2⟩
theorem G70x0_eq (hN : maxLen < N) (h : FldsOk fs) (t : Bool) : ∃ nl, G70x0 N fs t = some (nl, flds t fs) := by
 have hm : maxLen = 9223372036854775807 := rfl
 have hl := h.len
 have key := loop_indE (A := Bool × Int × Bool × LD) (X := Option (Bool × LD)) (S := fun x kr => S70x0x12 N fs fs.length x.1 x.2.1 x.2.2.1 x.2.2.2 (fun a b c d => kr (a, b, c, d)) (fun p => some p)) (L := fun m x => L70x0x12 N fs fs.length m x.1 x.2.1 x.2.2.1 x.2.2.2 (fun p => some p)) (fun m x => rfl)
  (fun x r => ∃ nl, r = some (nl, x.2.2.2 ++ Proofs.YthifhnmfecjjcaaGreatDoor.flds x.1 (fs.drop x.2.1.toNat))) (fun x => 0 ≤ x.2.1 ∧ x.2.1 ≤ fs.length ∧ (x.2.2.2.length : Int) ≤ x.2.1) (fun x => (fs.length - x.2.1).toNat) ?_ N (t, 0, true, []) ⟨by show (0 : Int) ≤ 0; omega, by show (0 : Int) ≤ _; omega, by simp⟩ (by simp; omega)
 ·obtain ⟨nl, k2⟩ := key
  have k3 : G70x0x12 N fs fs.length t 0 true [] = some (nl, Proofs.YthifhnmfecjjcaaGreatDoor.flds t fs) := by
   refine Eq.trans k2 ?_
   simp
  refine ⟨nl, ?_⟩
  unfold G70x0 F70x0
  rw [k3]; rfl
 ·rintro ⟨t, w, b, l⟩ kr ⟨h0, h1, h2⟩ ih
  simp only at h0 h1 h2 ih ⊢
  unfold S70x0x12
  by_cases hw : w < fs.length
  ·rw [decide_eq_true hw, inB_of h0 hw, drop_at (.i 0) h0 hw]
   have r1 : decide ((l.length + 1) * 24 ≤ room) = true := decide_eq_true (by unfold room; omega)
   have r2 : decide (l.length + 1 ≤ strMax) = true := decide_eq_true (by unfold strMax; omega)
   have hv : V70x0x19 N t ((fs.getD w.toNat (.i 0)).cell 0).toI ((fs.getD w.toNat (.i 0)).cell 1).toI ((fs.getD w.toNat (.i 0)).cell 2).toI = (t && isT (fs.getD w.toNat (.i 0))) := by
    unfold V70x0x19 F70x0x19
    simp only [bnd_eq, V90x0_eq]
    cases t <;> rfl
   simp only [_root_.cond_true, bnd_eq, hv, r1, r2, Bool.and_self, wrapI (x := w + 1) (by omega) (by omega), Proofs.YthifhnmfecjjcaaGreatDoor.flds]
   cases t && isT (fs.getD w.toNat (.i 0)) with
   | true =>
    simp only [_root_.cond_true]
    exact ih (false, w + 1, b, l) ⟨by simp only; omega, by simp only; omega, by simp only; omega⟩ (by simp only; omega)
   | false =>
    simp only [_root_.cond_false]
    obtain ⟨nl, e⟩ := ih (t, w + 1, false, l ++ [.a [.i (fN (fs.getD w.toNat (.i 0))), .i (fS (fs.getD w.toNat (.i 0))), .i (fT (fs.getD w.toNat (.i 0)))]]) ⟨by simp only; omega, by simp only; omega, by simp; omega⟩ (by simp only; omega)
    exact ⟨nl, by rw [← List.append_cons] at e; exact e⟩
  ·have : w = fs.length := by omega
   subst this
   rw [decide_eq_false hw, drop_end (by omega)]
   exact ⟨b, by simp [Proofs.YthifhnmfecjjcaaGreatDoor.flds]⟩
end
end Go.Proofs.YthifhnmfecjjcaaGreatDoor

namespace Go.Proofs.YthifhnmfecjjcaaGreatDoor
open Go Go.AM
set_option maxRecDepth 100000
set_option maxHeartbeats 4000000
variable {N : Nat}
theorem or_byte {n b : Nat} (hn : n < 1099511627776) (hb : b < 256) : (bitsV .or .i64 (IntKind.wrap .i64 ((n : Int) * 2 ^ 8)) (IntKind.wrap .i64 (b : Int))).getD 0 = 256 * (n : Int) + b := by
 have e1 : IntKind.wrap .i64 ((n : Int) * 2 ^ 8) = ((n * 256 : Nat) : Int) := by rw [wrapI (by omega) (by omega)]; omega
 have e2 : IntKind.wrap .i64 (b : Int) = (b : Int) := wrapI (by omega) (by omega)
 rw [e1, e2]
 have h64 : IntKind.bits .i64 = 64 := rfl
 have o : (BitVec.ofInt 64 ((n * 256 : Nat) : Int) ||| BitVec.ofInt 64 (b : Int)).toNat = n * 256 + b := by
  rw [BitVec.toNat_or, BitVec.ofInt_natCast, BitVec.ofInt_natCast, BitVec.toNat_ofNat, BitVec.toNat_ofNat, Nat.mod_eq_of_lt (by omega), Nat.mod_eq_of_lt (by omega)]
  have := Nat.shiftLeft_add_eq_or_of_lt (b := b) (i := 8) (by omega) n
  rw [Nat.shiftLeft_eq] at this
  exact this.symm
 show IntKind.wrap .i64 (((BitVec.ofInt 64 ((n * 256 : Nat) : Int) ||| BitVec.ofInt 64 (b : Int)).toNat : Nat) : Int) = _
 rw [o, wrapI (by omega) (by omega)]
 omega
def BytesOk (xs : List D) : Prop := ∀ x ∈ xs, 0 ≤ x.toI ∧ x.toI ≤ 255
def pkB (len : Int) (big : Bool) (i : Int) : Int := bif big then i else len - 1 - i
def numR (xs : List D) (big : Bool) : Nat → Int → Int → Int
 | 0, _, n => n
 | k + 1, i, n => numR xs big k (i + 1) (256 * n + (xs.getD (pkB xs.length big i).toNat (.i 0)).toI)
def numB (xs : List D) (big : Bool) : Int := numR xs big xs.length 0 0
theorem pow_step {n b i : Int} (h0 : 0 ≤ i) (h1 : 0 ≤ n) (h2 : n < 256 ^ i.toNat) (h3 : 0 ≤ b) (h4 : b ≤ 255) : 0 ≤ 256 * n + b ∧ 256 * n + b < 256 ^ (i + 1).toNat := by
 have e : (i + 1).toNat = i.toNat + 1 := by omega
 rw [e, Int.pow_succ]
 omega
theorem pow_le {n i : Int} (h0 : 0 ≤ i) (h1 : i ≤ 4) (h2 : n < 256 ^ i.toNat) : n < 4294967296 := by
 have : i = 0 ∨ i = 1 ∨ i = 2 ∨ i = 3 ∨ i = 4 := by omega
 rcases this with rfl | rfl | rfl | rfl | rfl <;> simp at h2 <;> omega
theorem getB {xs : List D} (h : BytesOk xs) {i : Int} (h0 : 0 ≤ i) (h1 : i < xs.length) : 0 ≤ (xs.getD i.toNat (.i 0)).toI ∧ (xs.getD i.toNat (.i 0)).toI ≤ 255 := h _ (getD_mem h0 h1)
section
variable {xs : List D}
theorem pkB_in {big : Bool} {i : Int} (h0 : 0 ≤ i) (h1 : i < xs.length) : 0 ≤ pkB xs.length big i ∧ pkB xs.length big i < xs.length := by
 unfold pkB; cases big <;> simp <;> omega
theorem numR_bound (hb : BytesOk xs) (big : Bool) : ∀ (k : Nat) (i n : Int), 0 ≤ i → i + k = xs.length → 0 ≤ n → n < 256 ^ i.toNat → 0 ≤ numR xs big k i n ∧ numR xs big k i n < 256 ^ xs.length
 | 0, i, n, h0, h1, h2, h3 => by
  have : i.toNat = xs.length := by omega
  rw [this] at h3
  exact ⟨h2, h3⟩
 | k + 1, i, n, h0, h1, h2, h3 => by
  obtain ⟨p0, p1⟩ := pkB_in (xs := xs) (big := big) h0 (by omega)
  obtain ⟨b0, b1⟩ := getB hb p0 p1
  obtain ⟨q0, q1⟩ := pow_step h0 h2 h3 b0 b1
  exact numR_bound hb big k (i + 1) _ (by omega) (by omega) q0 q1
theorem numB_bound (hb : BytesOk xs) (big : Bool) (hl : xs.length ≤ 4) : 0 ≤ numB xs big ∧ numB xs big < 4294967296 := by
 obtain ⟨h1, h2⟩ := numR_bound hb big xs.length 0 0 (by omega) (by omega) (by omega) (by simp)
 refine ⟨h1, ?_⟩
 have := pow_le (i := (xs.length : Int)) (by omega) (by omega) (n := numB xs big) (by unfold numB; simpa using h2)
 exact this
theorem G64x0_eq (hN : maxLen < N) (hb : BytesOk xs) (big : Bool) (hl : xs.length ≤ 4) : G64x0 N xs big = some (numB xs big) := by
 have hm : maxLen = 9223372036854775807 := rfl
 have key := loop_ind (A := Int × Int) (X := Option Int) (S := fun x kr => S64x0x9 N xs big xs.length x.1 x.2 (fun a b => kr (a, b)) (fun p => some p)) (L := fun m x => L64x0x9 N xs big xs.length m x.1 x.2 (fun p => some p)) (fun m x => rfl)
  (fun x => some (numR xs big (xs.length - x.2).toNat x.2 x.1)) (fun x => 0 ≤ x.2 ∧ x.2 ≤ xs.length ∧ 0 ≤ x.1 ∧ x.1 < 256 ^ x.2.toNat) (fun x => (xs.length - x.2).toNat) ?_ N (0, 0) ⟨by decide, by show (0 : Int) ≤ _; omega, by decide, by decide⟩ (by simp; omega)
 ·have k2 : G64x0x9 N xs big xs.length 0 0 = some (numB xs big) := by
   refine Eq.trans key ?_
   simp [numB]
  unfold G64x0 F64x0
  rw [k2]; rfl
 ·rintro ⟨n, i⟩ kr ⟨h0, h1, h2, h3⟩ ih
  simp only at h0 h1 h2 h3 ih ⊢
  unfold S64x0x9
  by_cases hw : i < xs.length
  ·obtain ⟨p0, p1⟩ := pkB_in (xs := xs) (big := big) h0 hw
   obtain ⟨b0, b1⟩ := getB hb p0 p1
   obtain ⟨q0, q1⟩ := pow_step h0 h2 h3 b0 b1
   have hn := pow_le h0 (by omega) h3
   have hv : V64x0x23 N i (IntKind.wrap .i64 ((IntKind.wrap .i64 ((xs.length : Int) - 1)) - i)) big = pkB xs.length big i := by
    rw [wrapI (x := (xs.length : Int) - 1) (by omega) (by omega), wrapI (x := (xs.length : Int) - 1 - i) (by omega) (by omega)]
    unfold V64x0x23 F64x0x23 pkB
    cases big <;> rfl
   have ho := or_byte (n := n.toNat) (b := (xs.getD (pkB xs.length big i).toNat (.i 0)).toI.toNat) (by omega) (by omega)
   rw [Int.toNat_of_nonneg h2, Int.toNat_of_nonneg b0] at ho
   rw [decide_eq_true hw]
   simp only [_root_.cond_true, bnd_eq, hv, inB_of p0 p1, ho, wrapI (x := i + 1) (by omega) (by omega)]
   rw [ih (_, i + 1) ⟨by simp only; omega, by simp only; omega, q0, q1⟩ (by simp only; omega)]
   have e : (xs.length - i).toNat = (xs.length - (i + 1)).toNat + 1 := by omega
   rw [e]
   rfl
  ·have : i = xs.length := by omega
   subst this
   rw [decide_eq_false hw]
   simp [numR]
theorem G71x0_eq (hN : maxLen < N) (hb : BytesOk xs) (big : Bool) (hl : xs.length ≤ 4) : G71x0 N xs big = some (numB xs big) := by
 have hm : maxLen = 9223372036854775807 := rfl
 have key := loop_ind (A := Int × Int) (X := Option Int) (S := fun x kr => S71x0x9 N xs big xs.length x.1 x.2 (fun a b => kr (a, b)) (fun p => some p)) (L := fun m x => L71x0x9 N xs big xs.length m x.1 x.2 (fun p => some p)) (fun m x => rfl)
  (fun x => some (numR xs big (xs.length - x.2).toNat x.2 x.1)) (fun x => 0 ≤ x.2 ∧ x.2 ≤ xs.length ∧ 0 ≤ x.1 ∧ x.1 < 256 ^ x.2.toNat) (fun x => (xs.length - x.2).toNat) ?_ N (0, 0) ⟨by decide, by show (0 : Int) ≤ _; omega, by decide, by decide⟩ (by simp; omega)
 ·have k2 : G71x0x9 N xs big xs.length 0 0 = some (numB xs big) := by
   refine Eq.trans key ?_
   simp [numB]
  unfold G71x0 F71x0
  rw [k2]; rfl
 ·rintro ⟨n, i⟩ kr ⟨h0, h1, h2, h3⟩ ih
  simp only at h0 h1 h2 h3 ih ⊢
  unfold S71x0x9
  by_cases hw : i < xs.length
  ·obtain ⟨p0, p1⟩ := pkB_in (xs := xs) (big := big) h0 hw
   obtain ⟨b0, b1⟩ := getB hb p0 p1
   obtain ⟨q0, q1⟩ := pow_step h0 h2 h3 b0 b1
   have hn := pow_le h0 (by omega) h3
   have hv : V71x0x23 N xs i i (!big) = pkB xs.length big i := by
    unfold V71x0x23 F71x0x23 pkB
    rw [wrapI (x := (xs.length : Int) - 1) (by omega) (by omega), wrapI (x := (xs.length : Int) - 1 - i) (by omega) (by omega)]
    cases big <;> rfl
   have ho : IntKind.wrap .i64 ((IntKind.wrap .i64 (256 * n)) + (IntKind.wrap .i64 (xs.getD (pkB xs.length big i).toNat (.i 0)).toI)) = 256 * n + (xs.getD (pkB xs.length big i).toNat (.i 0)).toI := by
    rw [wrapI (x := 256 * n) (by omega) (by omega), wrapI (x := (xs.getD (pkB xs.length big i).toNat (.i 0)).toI) (by omega) (by omega), wrapI (by omega) (by omega)]
   rw [decide_eq_true hw]
   simp only [_root_.cond_true, bnd_eq, hv, inB_of p0 p1, ho, wrapI (x := i + 1) (by omega) (by omega)]
   rw [ih (_, i + 1) ⟨by simp only; omega, by simp only; omega, q0, q1⟩ (by simp only; omega)]
   have e : (xs.length - i).toNat = (xs.length - (i + 1)).toNat + 1 := by omega
   rw [e]
   rfl
  ·have : i = xs.length := by omega
   subst this
   rw [decide_eq_false hw]
   simp [numR]
end
theorem missing4 : G65x0 N 4 false = some 4294967295 := by
 unfold G65x0 F65x0
 have e1 : IntKind.wrap .i64 (8 * 4) = 32 := by decide
 rw [e1]
 have e2 : IntKind.wrap .i64 (1 * 2 ^ (min (32 : Int).toNat 64)) = 4294967296 := by decide
 have e3 : IntKind.wrap .i64 ((4294967296 : Int) - 1) = 4294967295 := by decide
 simp only [_root_.cond_false, bnd_eq, e2, e3]
 rfl
structure Slots (p s : D) : Prop where
 known : ∀ j : Nat, j < 16 → (p.cell (0 + j * 6)).toB = (s.cell (0 + j * 1)).toB
 defs : ∀ j : Nat, j < 16 → (p.cell (0 + j * 6)).toB = true → FldsOk (p.cell (3 + j * 6)).items ∧ (p.cell (1 + j * 6)).toB = (s.cell (16 + j * 3)).toB ∧ (p.cell (2 + j * 6)).toI = (s.cell (17 + j * 3)).toI ∧
  (p.cell (3 + j * 6)).items = (s.cell (18 + j * 3)).items ∧ (p.cell (4 + j * 6)).toI = szL (p.cell (3 + j * 6)).items ∧ (p.cell (5 + j * 6)).toI = tmL 0 (p.cell (3 + j * 6)).items
structure Sim (p s : D) (k : Int) : Prop extends Slots p s where
 last : (p.cell 96).toI = (s.cell 64).toI
 lo : -1 ≤ (p.cell 96).toI
 hi : (p.cell 96).toI ≤ 4294967295 + 32 * k
structure EntL (ds data : List D) : Prop where
 d : ds.length ≤ maxLen
 b : data.length ≤ maxLen
 f : ∀ x ∈ ds, (x.cell 2).items.length ≤ maxLen
 y : BytesOk data
def entE (kind slot off : Int) (ds data : List D) (known : Bool) (size time last : Int) : Int :=
 bif !inI kind 1 3 then 7 else bif !inI slot 0 (bif kind == 3 then 3 else 15) || !inI off 0 (bif kind == 3 then 31 else 0) then 9 else
 bif kind == 1 then (bif ((ds.length : Int) != 1) || decide ((data.length : Int) > 0) then 2 else defE ((ds.getD 0 (.i 0)).cell 1).toI ((ds.getD 0 (.i 0)).cell 2).items) else
 bif (ds.length : Int) != 0 then 2 else bif !known || ((kind == 3) && (decide (time < 0) || decide (last < 0))) then 11 else bif (data.length : Int) != (bif kind == 3 then size - 4 else size) then 2 else 0
section
variable {kind slot off : Int} {ds data : List D} {p s : D} {k : Int}
theorem slot_in (h : inI slot 0 (bif kind == 3 then 3 else 15) = true) : inB slot 16 = true ∧ slot.toNat < 16 := by
 unfold inI at h
 cases hk : kind == 3 <;> rw [hk] at h <;> simp at h <;> exact ⟨inB_of (by omega) (by omega), by omega⟩
theorem G35x0_eq (hN : maxLen < N) (hs : Sim p s k) (he : EntL ds data) : G35x0 N kind slot off ds data p = some (entE kind slot off ds data (p.cell (0 + slot.toNat * 6)).toB (p.cell (4 + slot.toNat * 6)).toI (p.cell (5 + slot.toNat * 6)).toI (p.cell 96).toI) := by
 have hm : maxLen = 9223372036854775807 := rfl
 unfold G35x0 F35x0 entE V35x0x14 F35x0x14 V35x0x20 F35x0x20 V35x0x28 F35x0x28 V35x0x62 F35x0x62
 simp only [bnd_eq, V61x0_eq]
 cases h1 : inI kind 1 3 with
 | false => rfl
 | true =>
 have e14 : (bif kind == 3 then ((3 : Int), (31 : Int)) else (15, 0)) = ((bif kind == 3 then 3 else 15), (bif kind == 3 then 31 else 0)) := by cases kind == 3 <;> rfl
 rw [e14]
 simp only [Bool.not_true, _root_.cond_false]
 cases h2 : inI slot 0 (bif kind == 3 then 3 else 15) with
 | false => rfl
 | true =>
 obtain ⟨i1, i2⟩ := slot_in h2
 cases h3 : inI off 0 (bif kind == 3 then 31 else 0) with
 | false => rfl
 | true =>
 simp only [Bool.not_true, _root_.cond_false, Bool.or_self]
 by_cases hk : kind = 1
 ·subst hk
  simp only [beq_self_eq_true, _root_.cond_true]
  cases h4 : ((ds.length : Int) != 1) with
  | true => rfl
  | false =>
   have hl : ds.length = 1 := by simp at h4; omega
   cases decide ((data.length : Int) > 0) with
   | true => rfl
   | false =>
    have hmem : ds.getD 0 (.i 0) ∈ ds := getD_mem (w := 0) (by omega) (by omega)
    simp only [_root_.cond_false, Bool.or_self]
    rw [inB_of (by omega) (by omega), G62x0_eq hN _ (he.f _ hmem)]
    rfl
 ·have hk1 : (kind == 1) = false := by simpa using hk
  rw [hk1]
  simp only [_root_.cond_false]
  cases h4 : ((ds.length : Int) != 0) with
  | true => rfl
  | false =>
   simp only [_root_.cond_false, i1, _root_.cond_true]
   cases hkn : (p.cell (0 + slot.toNat * 6)).toB with
   | false => rfl
   | true =>
    obtain ⟨d1, _, _, _, d5, d6⟩ := hs.defs _ i2 hkn
    have hb := szL_bound d1.size
    have hl := d1.len
    cases hk3 : kind == 3 with
    | false =>
     simp only [Bool.not_true, _root_.cond_false, Bool.false_and, Bool.or_self]
     cases ((data.length : Int) != (p.cell (4 + slot.toNat * 6)).toI) <;> rfl
    | true =>
     simp only [Bool.not_true, _root_.cond_false, _root_.cond_true, Bool.true_and, Bool.false_or]
     cases decide ((p.cell (5 + slot.toNat * 6)).toI < 0) with
     | true => rfl
     | false =>
      cases decide ((p.cell 96).toI < 0) with
      | true => rfl
      | false =>
       simp only [_root_.cond_false, Bool.or_self]
       rw [wrapI (by omega) (by omega)]
       cases ((data.length : Int) != (p.cell (4 + slot.toNat * 6)).toI - 4) <;> rfl
theorem G40x0_eq (hN : maxLen < N) (hs : Sim p s k) (he : EntL ds data) : G40x0 N kind slot off ds data s = some (entE kind slot off ds data (p.cell (0 + slot.toNat * 6)).toB (p.cell (4 + slot.toNat * 6)).toI (p.cell (5 + slot.toNat * 6)).toI (p.cell 96).toI) := by
 have hm : maxLen = 9223372036854775807 := rfl
 unfold G40x0 F40x0 entE V40x0x17 F40x0x17 V40x0x19 F40x0x19
 simp only [bnd_eq, V66x0_eq]
 cases h1 : inI kind 1 3 with
 | false => rfl
 | true =>
 have e14 : (bif kind == 3 then ((3 : Int), (31 : Int)) else (15, 0)) = ((bif kind == 3 then 3 else 15), (bif kind == 3 then 31 else 0)) := by cases kind == 3 <;> rfl
 rw [e14]
 simp only [Bool.not_true, _root_.cond_false]
 cases h2 : inI slot 0 (bif kind == 3 then 3 else 15) with
 | false => rfl
 | true =>
 obtain ⟨i1, i2⟩ := slot_in h2
 cases h3 : inI off 0 (bif kind == 3 then 31 else 0) with
 | false => rfl
 | true =>
 simp only [Bool.not_true, _root_.cond_false, Bool.or_self]
 by_cases hk : kind = 1
 ·subst hk
  simp only [beq_self_eq_true, _root_.cond_true]
  cases h4 : ((ds.length : Int) != 1) with
  | true => rfl
  | false =>
   have hl : ds.length = 1 := by simp at h4; omega
   cases decide ((data.length : Int) > 0) with
   | true => rfl
   | false =>
    have hmem : ds.getD 0 (.i 0) ∈ ds := getD_mem (w := 0) (by omega) (by omega)
    simp only [_root_.cond_false, Bool.or_self]
    rw [inB_of (by omega) (by omega), G67x0_eq hN _ (he.f _ hmem)]
    rfl
 ·have hk1 : (kind == 1) = false := by simpa using hk
  have e0 : decide ((ds.length : Int) > 0) = ((ds.length : Int) != 0) := by rw [Bool.eq_iff_iff]; simp only [decide_eq_true_eq, bne_iff_ne]; omega
  rw [hk1, e0]
  simp only [_root_.cond_false]
  cases h4 : ((ds.length : Int) != 0) with
  | true => rfl
  | false =>
   simp only [_root_.cond_false, i1, _root_.cond_true, ← hs.known _ i2]
   cases hkn : (p.cell (0 + slot.toNat * 6)).toB with
   | false => rfl
   | true =>
    obtain ⟨d1, _, _, d4, d5, d6⟩ := hs.defs _ i2 hkn
    rw [← d4, ← hs.last, d5, d6, G68x0_eq hN d1]
    obtain ⟨nl, hf⟩ := G70x0_eq hN d1 (kind == 3)
    rw [hf]
    simp only [Option.isSome_some, getD_some, _root_.cond_true, G69x0_eq hN (d1.flds _)]
    have z := szL_flds (a := 0) (by omega) d1.size
    cases hk3 : kind == 3 with
    | false =>
     simp only [Bool.not_true, _root_.cond_false, Bool.false_and, Bool.or_self, szL_flds_false]
     cases ((data.length : Int) != szL (p.cell (3 + slot.toNat * 6)).items) <;> rfl
    | true =>
     by_cases ht : tmL 0 (p.cell (3 + slot.toNat * 6)).items < 0
     ·simp only [decide_eq_true ht, _root_.cond_true]; rfl
     ·simp only [decide_eq_false ht, _root_.cond_false, _root_.cond_true, Bool.not_true, Bool.true_and, Bool.false_or, z.2 (by omega)]
      cases decide ((p.cell 96).toI < 0) with
      | true => rfl
      | false =>
       simp only [_root_.cond_false]
       cases ((data.length : Int) != szL (p.cell (3 + slot.toNat * 6)).items - 4) <;> rfl
end
end Go.Proofs.YthifhnmfecjjcaaGreatDoor

namespace Go.Proofs.YthifhnmfecjjcaaGreatDoor
open Go Go.AM
set_option maxRecDepth 100000
set_option maxHeartbeats 4000000
variable {N : Nat}
structure EntOk (kind slot off : Int) (ds data : List D) (known : Bool) (size time last : Int) : Prop where
 k : 1 ≤ kind ∧ kind ≤ 3
 s : inB slot 16 = true ∧ slot.toNat < 16
 d : kind = 1 → ds.length = 1 ∧ defE ((ds.getD 0 (.i 0)).cell 1).toI ((ds.getD 0 (.i 0)).cell 2).items = 0
 n : kind ≠ 1 → known = true ∧ ds.length = 0
 h : kind = 3 → 0 ≤ time ∧ 0 ≤ last ∧ 0 ≤ off ∧ off ≤ 31 ∧ (data.length : Int) = size - 4
 t : kind = 2 → (data.length : Int) = size
section
variable {kind slot off : Int} {ds data : List D} {p s : D} {k : Int}
theorem entE_ok {known : Bool} {size time last : Int} (h : entE kind slot off ds data known size time last = 0) : EntOk kind slot off ds data known size time last := by
 unfold entE at h
 cases h1 : inI kind 1 3 with
 | false => rw [h1] at h; exact absurd (show (7 : Int) = 0 from h) (by decide)
 | true =>
 cases h2 : inI slot 0 (bif kind == 3 then 3 else 15) with
 | false => rw [h1, h2] at h; exact absurd (show (9 : Int) = 0 from h) (by decide)
 | true =>
 cases h3 : inI off 0 (bif kind == 3 then 31 else 0) with
 | false => rw [h1, h2, h3] at h; exact absurd (show (9 : Int) = 0 from h) (by decide)
 | true =>
 rw [h1, h2, h3] at h
 simp only [Bool.not_true, _root_.cond_false, Bool.or_self] at h
 have hkr : 1 ≤ kind ∧ kind ≤ 3 := by unfold inI at h1; simpa using h1
 by_cases hk : kind = 1
 ·subst hk
  simp only [beq_self_eq_true, _root_.cond_true] at h
  cases h4 : ((ds.length : Int) != 1) || decide ((data.length : Int) > 0) with
  | true => rw [h4] at h; exact absurd (show (2 : Int) = 0 from h) (by decide)
  | false =>
   rw [h4] at h
   simp only [Bool.or_eq_false_iff, bne_eq_false_iff_eq] at h4
   exact ⟨hkr, slot_in h2, fun _ => ⟨by omega, h⟩, fun hn => absurd rfl hn, fun h => by omega, fun h => by omega⟩
 ·have hk1 : (kind == 1) = false := by simpa using hk
  rw [hk1] at h
  simp only [_root_.cond_false] at h
  cases h4 : ((ds.length : Int) != 0) with
  | true => rw [h4] at h; exact absurd (show (2 : Int) = 0 from h) (by decide)
  | false =>
  rw [h4] at h
  simp only [_root_.cond_false] at h
  cases h5 : !known || ((kind == 3) && (decide (time < 0) || decide (last < 0))) with
  | true => rw [h5] at h; exact absurd (show (11 : Int) = 0 from h) (by decide)
  | false =>
  rw [h5] at h
  simp only [_root_.cond_false] at h
  cases h6 : ((data.length : Int) != (bif kind == 3 then size - 4 else size)) with
  | true => rw [h6] at h; exact absurd (show (2 : Int) = 0 from h) (by decide)
  | false =>
  simp only [bne_eq_false_iff_eq] at h4 h6
  simp only [Bool.or_eq_false_iff, Bool.not_eq_false'] at h5
  refine ⟨hkr, slot_in h2, fun h => absurd h hk, fun _ => ⟨h5.1, by omega⟩, fun h3' => ?_, fun h2' => ?_⟩
  ·subst h3'
   simp at h3 h5 h6
   unfold inI at h3
   simp at h3
   omega
  ·subst h2'
   simpa using h6
theorem put6 {a : Nat} {x0 x1 x2 x3 x4 x5 : D} (j : Nat) : let q := (((((p.put (0 + a * 6) x0).put (1 + a * 6) x1).put (2 + a * 6) x2).put (3 + a * 6) x3).put (4 + a * 6) x4).put (5 + a * 6) x5
  q.cell (0 + j * 6) = (if j = a then x0 else p.cell (0 + j * 6)) ∧ q.cell (1 + j * 6) = (if j = a then x1 else p.cell (1 + j * 6)) ∧ q.cell (2 + j * 6) = (if j = a then x2 else p.cell (2 + j * 6)) ∧
  q.cell (3 + j * 6) = (if j = a then x3 else p.cell (3 + j * 6)) ∧ q.cell (4 + j * 6) = (if j = a then x4 else p.cell (4 + j * 6)) ∧ q.cell (5 + j * 6) = (if j = a then x5 else p.cell (5 + j * 6)) := by
 simp only [cell_put]
 by_cases h : j = a
 ·subst h
  simp
 ·simp only [if_neg h]
  refine ⟨?_, ?_, ?_, ?_, ?_, ?_⟩ <;> rw [if_neg (by omega), if_neg (by omega), if_neg (by omega), if_neg (by omega), if_neg (by omega), if_neg (by omega)]
theorem put6_last {a : Nat} {x0 x1 x2 x3 x4 x5 : D} (ha : a < 16) : ((((((p.put (0 + a * 6) x0).put (1 + a * 6) x1).put (2 + a * 6) x2).put (3 + a * 6) x3).put (4 + a * 6) x4).put (5 + a * 6) x5).cell 96 = p.cell 96 := by
 simp only [cell_put]
 rw [if_neg (by omega), if_neg (by omega), if_neg (by omega), if_neg (by omega), if_neg (by omega), if_neg (by omega)]
theorem put4 {a : Nat} {x0 x1 x2 x3 : D} (ha : a < 16) (j : Nat) (hj : j < 16) : let q := (((s.put (0 + a * 1) x0).put (16 + a * 3) x1).put (17 + a * 3) x2).put (18 + a * 3) x3
  q.cell (0 + j * 1) = (if j = a then x0 else s.cell (0 + j * 1)) ∧ q.cell (16 + j * 3) = (if j = a then x1 else s.cell (16 + j * 3)) ∧ q.cell (17 + j * 3) = (if j = a then x2 else s.cell (17 + j * 3)) ∧
  q.cell (18 + j * 3) = (if j = a then x3 else s.cell (18 + j * 3)) ∧ q.cell 64 = s.cell 64 := by
 simp only [cell_put]
 refine ⟨?_, ?_, ?_, ?_, ?_⟩
 ·rw [if_neg (by omega), if_neg (by omega), if_neg (by omega)]
  by_cases h : j = a
  ·rw [if_pos (by omega), if_pos h]
  ·rw [if_neg (by omega), if_neg h]
 ·rw [if_neg (by omega), if_neg (by omega)]
  by_cases h : j = a
  ·rw [if_pos (by omega), if_pos h]
  ·rw [if_neg (by omega), if_neg (by omega), if_neg h]
 ·rw [if_neg (by omega)]
  by_cases h : j = a
  ·rw [if_pos (by omega), if_pos h]
  ·rw [if_neg (by omega), if_neg (by omega), if_neg (by omega), if_neg h]
 ·by_cases h : j = a
  ·rw [if_pos (by omega), if_pos h]
  ·rw [if_neg (by omega), if_neg (by omega), if_neg (by omega), if_neg (by omega), if_neg h]
 ·rw [if_neg (by omega), if_neg (by omega), if_neg (by omega), if_neg (by omega)]
theorem slots_put (hs : Slots p s) {a : Nat} (i2 : a < 16) {arch : Bool} {g : Int} {nl nl2 : Bool} {fs : List D} (hf : FldsOk fs) :
  Slots ((((((p.put (0 + a * 6) (.b true)).put (1 + a * 6) (.b arch)).put (2 + a * 6) (.i g)).put (3 + a * 6) (.l nl fs)).put (4 + a * 6) (.i (szL fs))).put (5 + a * 6) (.i (tmL 0 fs)))
   ((((s.put (0 + a * 1) (.b true)).put (16 + a * 3) (.b arch)).put (17 + a * 3) (.i g)).put (18 + a * 3) (.l nl2 fs)) := by
 refine ⟨fun j hj => ?_, fun j hj hkn => ?_⟩
 ·rw [(put6 j).1, (put4 i2 j hj).1]
  by_cases h : j = a
  ·rw [if_pos h, if_pos h]
  ·rw [if_neg h, if_neg h]; exact hs.known j hj
 ·obtain ⟨a0, a1, a2, a3, a4, a5⟩ := put6 (p := p) (a := a) (x0 := .b true) (x1 := .b arch) (x2 := .i g) (x3 := .l nl fs) (x4 := .i (szL fs)) (x5 := .i (tmL 0 fs)) j
  obtain ⟨b0, b1, b2, b3, _⟩ := put4 (s := s) (x0 := .b true) (x1 := .b arch) (x2 := .i g) (x3 := .l nl2 fs) i2 j hj
  rw [a0] at hkn
  rw [a1, a2, a3, a4, a5, b1, b2, b3]
  by_cases h : j = a
  ·simp only [if_pos h]
   refine ⟨hf, ?_, ?_, ?_, ?_, ?_⟩ <;> first | trivial | rfl
  ·simp only [if_neg h] at hkn ⊢
   exact hs.defs j hj hkn
theorem Sim.last' (h : Sim p s k) {t : Int} (h0 : -1 ≤ t) (h1 : t ≤ 4294967295 + 32 * (k + 1)) : Sim (p.put 96 (.i t)) (s.put 64 (.i t)) (k + 1) := by
 have c1 : ∀ c j : Nat, c < 6 → j < 16 → (p.put 96 (.i t)).cell (c + j * 6) = p.cell (c + j * 6) := fun c j hc hj => by rw [cell_put, if_neg (by omega)]
 have c2 : ∀ j : Nat, j < 16 → (s.put 64 (.i t)).cell (0 + j * 1) = s.cell (0 + j * 1) ∧ (s.put 64 (.i t)).cell (16 + j * 3) = s.cell (16 + j * 3) ∧ (s.put 64 (.i t)).cell (17 + j * 3) = s.cell (17 + j * 3) ∧ (s.put 64 (.i t)).cell (18 + j * 3) = s.cell (18 + j * 3) := fun j hj => by
  refine ⟨?_, ?_, ?_, ?_⟩ <;> rw [cell_put, if_neg (by omega)]
 refine ⟨⟨fun j hj => ?_, fun j hj hk => ?_⟩, ?_, ?_, ?_⟩
 ·rw [c1 0 j (by omega) hj, (c2 j hj).1]; exact h.known j hj
 ·rw [c1 0 j (by omega) hj] at hk
  rw [c1 1 j (by omega) hj, c1 2 j (by omega) hj, c1 3 j (by omega) hj, c1 4 j (by omega) hj, c1 5 j (by omega) hj, (c2 j hj).2.1, (c2 j hj).2.2.1, (c2 j hj).2.2.2]
  exact h.defs j hj hk
 ·simp [cell_put, D.toI]
 ·simpa [cell_put, D.toI] using h0
 ·simpa [cell_put, D.toI] using h1
theorem Slots.last (h : Slots p s) {x : D} : Slots p (s.put 64 x) := by
 have c2 : ∀ j : Nat, j < 16 → (s.put 64 x).cell (0 + j * 1) = s.cell (0 + j * 1) ∧ (s.put 64 x).cell (16 + j * 3) = s.cell (16 + j * 3) ∧ (s.put 64 x).cell (17 + j * 3) = s.cell (17 + j * 3) ∧ (s.put 64 x).cell (18 + j * 3) = s.cell (18 + j * 3) := fun j hj => by
  refine ⟨?_, ?_, ?_, ?_⟩ <;> rw [cell_put, if_neg (by omega)]
 refine ⟨fun j hj => ?_, fun j hj hk => ?_⟩
 ·rw [(c2 j hj).1]; exact h.known j hj
 ·rw [(c2 j hj).2.1, (c2 j hj).2.2.1, (c2 j hj).2.2.2]
  exact h.defs j hj hk
theorem Sim.more (h : Sim p s k) : Sim p s (k + 1) := ⟨h.toSlots, h.last, h.lo, by have := h.hi; omega⟩
theorem slice_ok {t : Int} (h0 : 0 ≤ t) (h1 : t + 4 ≤ data.length) (hl : data.length ≤ maxLen) (hb : BytesOk data) : IntKind.wrap .i64 (t + 4) = t + 4 ∧ ((data.take (t + 4).toNat).drop t.toNat).length = 4 ∧ BytesOk ((data.take (t + 4).toNat).drop t.toNat) := by
 have hm : maxLen = 9223372036854775807 := rfl
 exact ⟨wrapI (by omega) (by omega), by simp; omega, fun x hx => hb x (List.mem_of_mem_take (List.mem_of_mem_drop hx))⟩
theorem take_sim (hN : maxLen < N) (hs : Sim p s k) (he : EntL ds data) (h0 : 0 ≤ k) (h1 : k ≤ 100000) (hE : EntOk kind slot off ds data (p.cell (0 + slot.toNat * 6)).toB (p.cell (4 + slot.toNat * 6)).toI (p.cell (5 + slot.toNat * 6)).toI (p.cell 96).toI) :
  ∃ t p' s', G36x0 N kind slot off ds data p = some (t, p') ∧ G41x0 N kind slot off ds data s = some (t, s') ∧ Sim p' s' (k + 1) ∧ -1 ≤ t ∧ t ≤ 4294967295 + 32 * (k + 1) ∧ (kind ≠ 1 → ∀ q, Slots q s → Slots q s') := by
 have hm : maxLen = 9223372036854775807 := rfl
 obtain ⟨i1, i2⟩ := hE.s
 unfold G36x0 F36x0 G36x0x15014 F36x0x15014 G41x0 F41x0
 rw [i1]
 by_cases hk1 : kind = 1
 ·subst hk1
  obtain ⟨d1, d2⟩ := hE.d rfl
  have hf := defE_ok d2
  have q1 := G63x0_eq hN hf
  simp only [beq_self_eq_true, _root_.cond_true, inB_of (i := 0) (n := ds.length) (by omega) (by omega), bnd_eq, q1, Option.isSome_some, getD_some]
  have e1 : decide ((-1 : Int) ≥ 0) = false := by decide
  rw [e1]
  refine ⟨_, _, _, rfl, rfl, ?_, by omega, by omega, fun h => absurd rfl h⟩
  show Sim ((((((p.put (0 + slot.toNat * 6) (.b true)).put (1 + slot.toNat * 6) (.b ((ds.getD 0 (.i 0)).cell 0).toB)).put (2 + slot.toNat * 6) (.i ((ds.getD 0 (.i 0)).cell 1).toI)).put (3 + slot.toNat * 6) (.l ((ds.getD 0 (.i 0)).cell 2).isNil ((ds.getD 0 (.i 0)).cell 2).items)).put (4 + slot.toNat * 6) (.i (szL ((ds.getD 0 (.i 0)).cell 2).items))).put (5 + slot.toNat * 6) (.i (tmL 0 ((ds.getD 0 (.i 0)).cell 2).items))) _ (k + 1)
  refine ⟨slots_put hs.toSlots i2 hf, ?_, ?_, ?_⟩
  ·rw [put6_last i2, (put4 i2 0 (by omega)).2.2.2.2]; exact hs.last
  ·rw [put6_last i2]; exact hs.lo
  ·rw [put6_last i2]; have := hs.hi; omega
 ·have hk1' : (kind == 1) = false := by simpa using hk1
  obtain ⟨kn, _⟩ := hE.n hk1
  obtain ⟨d1, d2, d3, d4, d5, d6⟩ := hs.defs _ i2 kn
  unfold G36x0x21020 F36x0x21020
  rw [hk1']
  simp only [_root_.cond_false, bnd_eq, ← hs.last, ← d4, ← d2]
  have hlo := hs.lo
  have hhi := hs.hi
  by_cases hk3 : kind = 3
  ·subst hk3
   obtain ⟨t0, l0, o0, o1, _⟩ := hE.h rfl
   have m0 : (p.cell 96).toI.tmod 32 = (p.cell 96).toI % 32 := Int.tmod_eq_emod_of_nonneg l0
   have w1 : IntKind.wrap .i64 (off - (p.cell 96).toI.tmod 32) = off - (p.cell 96).toI.tmod 32 := wrapI (by omega) (by omega)
   have w2 : IntKind.wrap .i64 (off - (p.cell 96).toI.tmod 32 + 32) = off - (p.cell 96).toI.tmod 32 + 32 := wrapI (by omega) (by omega)
   have m1 : (off - (p.cell 96).toI.tmod 32 + 32).tmod 32 = (off - (p.cell 96).toI.tmod 32 + 32) % 32 := Int.tmod_eq_emod_of_nonneg (by omega)
   have w3 : IntKind.wrap .i64 ((p.cell 96).toI + (off - (p.cell 96).toI.tmod 32 + 32).tmod 32) = (p.cell 96).toI + (off - (p.cell 96).toI.tmod 32 + 32).tmod 32 := wrapI (by omega) (by omega)
   simp only [beq_self_eq_true, _root_.cond_true, w1, w2, w3, Option.isSome_some, getD_some, V36x0x38, F36x0x38]
   rw [decide_eq_true (by omega)]
   refine ⟨_, _, _, rfl, ?_, hs.last' (t := (p.cell 96).toI + (off - (p.cell 96).toI.tmod 32 + 32).tmod 32) (by omega) (by omega), by omega, by omega, fun _ q hq => hq.last⟩
   rw [cell_put, if_pos rfl]
   rfl
  ·have hk2 : kind = 2 := by have := hE.k; omega
   subst hk2
   have hlen := hE.t rfl
   unfold G36x0x26 F36x0x26
   rw [d6, G68x0_eq hN d1]
   have tb := tmL_bound (a := 0) (by omega) d1.size
   by_cases ht : tmL 0 (p.cell (3 + slot.toNat * 6)).items < 0
   ·rw [decide_eq_true ht, decide_eq_false (by omega : ¬ tmL 0 (p.cell (3 + slot.toNat * 6)).items ≥ 0)]
    have e1 : decide ((-1 : Int) ≥ 0) = false := by decide
    refine ⟨-1, p, s, ?_, ?_, hs.more, by omega, by omega, fun _ q hq => hq⟩
    ·rfl
    ·rfl
   ·rw [decide_eq_false ht, decide_eq_true (by omega : tmL 0 (p.cell (3 + slot.toNat * 6)).items ≥ 0)]
    have h4 : tmL 0 (p.cell (3 + slot.toNat * 6)).items + 4 ≤ data.length := by rw [hlen, d5]; omega
    generalize tmL 0 (p.cell (3 + slot.toNat * 6)).items = tm at ht h4 ⊢
    obtain ⟨s1, s2, s3⟩ := slice_ok (by omega) h4 he.b he.y
    have nb := numB_bound s3 (p.cell (1 + slot.toNat * 6)).toB (by omega)
    have c0 : decide ((0 : Int) ≤ tm) = true := decide_eq_true (by omega)
    have c1 : decide (tm ≤ tm + 4) = true := decide_eq_true (by omega)
    have c2 : decide (tm + 4 ≤ (data.length : Int)) = true := decide_eq_true (by omega)
    have q1 := G64x0_eq hN s3 (p.cell (1 + slot.toNat * 6)).toB (by omega)
    have q2 := G71x0_eq hN s3 (p.cell (1 + slot.toNat * 6)).toB (by omega)
    have e3 : ((2 : Int) == 3) = false := by decide
    simp only [_root_.cond_true, _root_.cond_false, bnd_eq, Bool.and_self, s1, c0, c1, c2, q1, q2, missing4, Option.isSome_some, getD_some, V36x0x32, F36x0x32, Bool.not_true, e3, V36x0x38, F36x0x38]
    generalize numB ((data.take (tm + 4).toNat).drop tm.toNat) (p.cell (1 + slot.toNat * 6)).toB = n at nb ⊢
    by_cases hn : n = 4294967295
    ·subst hn
     exact ⟨-1, p, s, rfl, rfl, hs.more, by omega, by omega, fun _ q hq => hq⟩
    ·have e4 : (n != 4294967295) = true := by simpa using hn
     have e5 : (n == 4294967295) = false := by simpa using hn
     rw [e4, e5]
     simp only [_root_.cond_true, _root_.cond_false]
     rw [decide_eq_true (by omega)]
     exact ⟨n, _, _, rfl, rfl, hs.last' (by omega) (by omega), by omega, by omega, fun _ q hq => hq.last⟩
end
end Go.Proofs.YthifhnmfecjjcaaGreatDoor

namespace Go.Proofs.YthifhnmfecjjcaaGreatDoor
open Go Go.AM
set_option maxRecDepth 100000
set_option maxHeartbeats 4000000
variable {N : Nat}
def EntD (x : D) : Prop := EntL (x.cell 3).items (x.cell 4).items
def zeroS : D := .a (List.replicate 16 (.b false) ++ (List.replicate 16 [D.b false, D.i 0, D.l true []]).flatten ++ [.i (-1)])
theorem zero_slots (p : D) (hp : (List.range 16).all (fun j => !(p.cell (0 + j * 6)).toB && !(zeroS.cell (0 + j * 1)).toB) = true) : Slots p zeroS := by
 have h : ∀ j : Nat, j < 16 → (p.cell (0 + j * 6)).toB = false ∧ (zeroS.cell (0 + j * 1)).toB = false := fun j hj => by
  have := List.all_eq_true.1 hp j (List.mem_range.2 hj)
  simpa using this
 exact ⟨fun j hj => by rw [(h j hj).1, (h j hj).2], fun j hj hk => by rw [(h j hj).1] at hk; exact absurd hk (by decide)⟩
theorem zero70 : Sim (V34x0 N) zeroS 0 := ⟨zero_slots _ (by kernel_rfl), by kernel_rfl, by rw [show ((V34x0 N).cell 96).toI = -1 by kernel_rfl]; decide, by rw [show ((V34x0 N).cell 96).toI = -1 by kernel_rfl]; decide⟩
section
variable {es : List D}
theorem check_loop (hN : maxLen < N) (hes : ∀ x ∈ es, EntD x) (hl : es.length ≤ 50000) : ∀ (m : Nat) (i : Int) (p s : D), 0 ≤ i → i ≤ es.length → (es.length - i).toNat < m → Sim p s i →
  ∃ r : Sum Int Unit, L13x0x15 N es es.length m i p (fun p => some (.inl p)) (fun p => some (.inr p)) = some r ∧ L15x0x15 N es es.length m i s (fun p => some (.inl p)) (fun p => some (.inr p)) = some r ∧ (∀ e, r = .inl e → e ≠ 0) := by
 intro m
 induction m with
 | zero => intro i p s _ _ h; omega
 | succ m ih =>
  intro i p s h0 h1 hm hs
  unfold L13x0x15 L15x0x15 S13x0x15 S15x0x15
  by_cases hi : i < es.length
  ·have he : EntD _ := hes _ (getD_mem (fs := es) h0 hi)
   rw [decide_eq_true hi, inB_of h0 hi, G35x0_eq hN hs he, G40x0_eq hN hs he]
   simp only [_root_.cond_true, bnd_eq, Option.isSome_some, getD_some]
   generalize hE : entE ((es.getD i.toNat (.i 0)).cell 0).toI ((es.getD i.toNat (.i 0)).cell 1).toI ((es.getD i.toNat (.i 0)).cell 2).toI ((es.getD i.toNat (.i 0)).cell 3).items ((es.getD i.toNat (.i 0)).cell 4).items _ _ _ _ = e
   by_cases hz : e = 0
   ·subst hz
    obtain ⟨t, p', s', q1, q2, hs', _, _, _⟩ := take_sim hN hs he h0 (by omega) (entE_ok hE)
    have e0 : ((0 : Int) != 0) = false := by decide
    rw [e0, q1, q2]
    simp only [_root_.cond_false, Option.isSome_some, _root_.cond_true, getD_some, wrapI (x := i + 1) (by omega) (by omega)]
    exact ih (i + 1) p' s' (by omega) (by omega) (by omega) hs'
   ·have e0 : (e != 0) = true := by simpa using hz
    rw [e0]
    exact ⟨.inl e, rfl, rfl, fun e' h => by simp at h; subst h; exact hz⟩
  ·rw [decide_eq_false hi]
   exact ⟨.inr (), rfl, rfl, fun e' h => by simp at h⟩
theorem check_file (hN : maxLen < N) (hes : ∀ x ∈ es, EntD x) : ∃ c, G13x0 N es = some c ∧ G15x0 N es = some c := by
 by_cases hl : (es.length : Int) > 50000
 ·unfold G13x0 F13x0 G15x0 F15x0
  rw [decide_eq_true hl]; exact ⟨3, rfl, rfl⟩
 ·have hm : maxLen = 9223372036854775807 := rfl
  obtain ⟨r, q1, q2, _⟩ := check_loop hN hes (by omega) N 0 (V34x0 N) zeroS (by omega) (by omega) (by omega) zero70
  have k1 : G13x0x15 N es es.length 0 (V34x0 N) = some r := q1
  have k2 : G15x0x15 N es es.length 0 zeroS = some r := q2
  have k3 : G13x0 N es = bnd (G13x0x15 N es es.length 0 (V34x0 N)) (fun y1 => bif inlB y1 then some (inlV y1) else bif (inrQ y1).isSome then some 0 else none) := by
   unfold G13x0 F13x0
   rw [decide_eq_false hl]; rfl
  have k4 : G15x0 N es = bnd (G15x0x15 N es es.length 0 zeroS) (fun y1 => bif inlB y1 then some (inlV y1) else bif (inrQ y1).isSome then some 0 else none) := by
   unfold G15x0 F15x0
   rw [decide_eq_false hl]; rfl
  rw [k3, k4, k1, k2]
  cases r with
  | inl c => exact ⟨c, rfl, rfl⟩
  | inr u => exact ⟨0, rfl, rfl⟩
end
end Go.Proofs.YthifhnmfecjjcaaGreatDoor

namespace Go.Proofs.YthifhnmfecjjcaaGreatDoor
open Go Go.AM
set_option maxRecDepth 100000
set_option maxHeartbeats 4000000
set_option linter.unusedVariables false
variable {N : Nat}
section
variable {es : List D}
end
end Go.Proofs.YthifhnmfecjjcaaGreatDoor

namespace Go.Proofs.YthifhnmfecjjcaaGreatDoor
open Go Go.AM
set_option maxRecDepth 100000
set_option maxHeartbeats 4000000
set_option linter.unusedVariables false
variable {N : Nat}
section
variable {bs : List D}
theorem BytesOk.drop (hb : BytesOk bs) (a : Nat) : BytesOk (bs.drop a) := fun x hx => hb x (List.mem_of_mem_drop hx)
end
end Go.Proofs.YthifhnmfecjjcaaGreatDoor

namespace Go.Proofs.YthifhnmfecjjcaaGreatDoor
open Go Go.AM
set_option maxRecDepth 100000
set_option maxHeartbeats 4000000
set_option linter.unusedVariables false
variable {N : Nat}
section
variable {bs : List D}
end
end Go.Proofs.YthifhnmfecjjcaaGreatDoor

namespace Go.Proofs.YthifhnmfecjjcaaGreatDoor
open Go Go.AM
set_option maxRecDepth 100000
set_option maxHeartbeats 4000000
set_option linter.unusedVariables false
variable {N : Nat}
section
variable {bs : List D} {p s : D}
end
end Go.Proofs.YthifhnmfecjjcaaGreatDoor

namespace Go.Proofs.YthifhnmfecjjcaaGreatDoor
open Go Go.AM
set_option maxRecDepth 100000
set_option maxHeartbeats 4000000
set_option linter.unusedVariables false
variable {N : Nat}
section
variable {bs : List D} {p s : D}
end
end Go.Proofs.YthifhnmfecjjcaaGreatDoor

namespace Go.Proofs.YthifhnmfecjjcaaGreatDoor
open Go Go.AM
set_option maxRecDepth 100000
set_option maxHeartbeats 4000000
set_option linter.unusedVariables false
variable {N : Nat}
section
variable {bs : List D} {p s : D}
end
end Go.Proofs.YthifhnmfecjjcaaGreatDoor

namespace Go.Proofs.YthifhnmfecjjcaaGreatDoor
open Go Go.AM
set_option maxRecDepth 100000
set_option maxHeartbeats 4000000
set_option linter.unusedVariables false
variable {N : Nat}
section
variable {b : List D}
end
end Go.Proofs.YthifhnmfecjjcaaGreatDoor

namespace Go.Proofs.YthifhnmfecjjcaaGreatDoor
open Go Go.AM
set_option maxRecDepth 100000
set_option maxHeartbeats 4000000
set_option linter.unusedVariables false
variable {N : Nat}
section
variable {b : List D}
end
end Go.Proofs.YthifhnmfecjjcaaGreatDoor

namespace Go.Proofs.YthifhnmfecjjcaaGreatDoor
open Go Go.AM
set_option maxRecDepth 100000
set_option maxHeartbeats 4000000
set_option linter.unusedVariables false
variable {N : Nat}
theorem zipAll_true : ∀ xs : List D, zipAll (fun _ _ => true) xs xs = true
 | [] => rfl
 | x :: r => by simp only [zipAll, Bool.true_and]; exact zipAll_true r
theorem inB_mem {xs : List D} {w : Int} (h : inB w xs.length = true) : xs.getD w.toNat (.i 0) ∈ xs := by
 unfold inB at h
 simp at h
 exact getD_mem h.1 h.2
theorem refl_ind {xs : List D} {S : Int → (Int → Option (Sum Unit Unit)) → Option (Sum Unit Unit)} {L : Nat → Int → Option (Sum Unit Unit)} (hL : ∀ m a, L (m + 1) a = S a (L m)) (hlen : xs.length ≤ maxLen)
  (hend : ∀ kr, S xs.length kr = some (.inr ()))
  (hstep : ∀ (w : Int) (kr : Int → Option (Sum Unit Unit)), decide (w < xs.length) = true → inB w xs.length = true → xs.getD w.toNat (.i 0) ∈ xs → S w kr = kr (IntKind.wrap .i64 (w + 1)))
  (hN : maxLen < N) : L N 0 = some (.inr ()) := by
 have := zip_ind (xs := xs) (ys := xs) (fun _ _ => true) hL hlen rfl hend (fun w kr h1 h2 _ => by rw [hstep w kr h1 h2 (inB_mem h2)]; rfl) hN
 rw [this, zipAll_true]
 rfl
section
variable {xs : List D}
theorem len_self (xs : List D) : ((xs.length : Int) != (xs.length : Int)) = false := by simp
theorem G140_refl (hN : maxLen < N) (hl : xs.length ≤ maxLen) : G72x0 N xs xs = some true := by
 have k : G72x0x12 N xs xs xs.length 0 = some (.inr ()) := by
  refine refl_ind (S := fun w kr => S72x0x12 N xs xs xs.length w kr _ _) (L := fun m w => L72x0x12 N xs xs xs.length m w _ _) (fun m w => rfl) hl (fun kr => by simp [S72x0x12]) (fun w kr h1 h2 h3 => ?_) hN
  unfold S72x0x12
  rw [h1, h2]
  simp [bnd_eq]
 unfold G72x0 F72x0
 rw [len_self, k]; rfl
theorem G25_refl (hN : maxLen < N) (hl : xs.length ≤ maxLen) : G44x0 N xs xs = some true := by
 have k : G44x0x12 N xs xs xs.length 0 = some (.inr ()) := by
  refine refl_ind (S := fun w kr => S44x0x12 N xs xs xs.length w kr _ _) (L := fun m w => L44x0x12 N xs xs xs.length m w _ _) (fun m w => rfl) hl (fun kr => by simp [S44x0x12]) (fun w kr h1 h2 h3 => ?_) hN
  unfold S44x0x12
  rw [h1, h2]
  simp [bnd_eq]
 unfold G44x0 F44x0
 rw [len_self, k]; rfl
theorem G104_refl (hN : maxLen < N) (hl : xs.length ≤ maxLen) (a : Bool) (g : Int) : G43x0 N a g xs a g xs = some true := by
 unfold G43x0 F43x0 G43x0x4 F43x0x4
 rw [G140_refl hN hl]
 simp [bnd_eq]
end
end Go.Proofs.YthifhnmfecjjcaaGreatDoor

namespace Go.Proofs.YthifhnmfecjjcaaGreatDoor
open Go Go.AM
set_option maxRecDepth 100000
set_option maxHeartbeats 4000000
variable {N : Nat}
theorem i64_atoi {l : List UInt8} (h : atoiOk l = true) : i64B (atoiV l) = true := by
 unfold atoiOk at h
 unfold atoiV
 cases ha : Lib.atoiAll l with
 | range => rw [ha] at h; cases h
 | ok v =>
  simp only
  unfold Lib.atoiAll at ha
  cases l with
  | nil => cases ha
  | cons c r =>
   simp only at ha
   split at ha
   ·cases ha
   ·cases ha
   ·rename_i u _
    unfold i64B
    split at ha
    ·cases ha
    ·split at ha
     ·cases ha
     ·cases ha
      rw [Bool.and_eq_true, decide_eq_true_eq, decide_eq_true_eq]
      split <;> omega
 | _ => rw [ha] at h; cases h
def rnB (v : List UInt8) : Bool := wholeL v && decide (v.length ≤ 9)
theorem whole_pos {v : List UInt8} (h : wholeL v = true) : isNeg v = false ∧ unsign v = v := by
 obtain ⟨c, r, rfl, hc⟩ := wholeL_head h
 have hc' := isDig_iff.1 hc
 rcases unsign_cases (c :: r) with ⟨_, q2⟩ | q
 ·simp only [List.cons.injEq] at q2
  rw [q2.1] at hc'
  exact absurd hc'.1 (by decide)
 ·exact q
theorem rn_num {v : List UInt8} (h : rnB v = true) : Go.AM.numB 9 v = true ∧ numV v = digV 0 v := by
 unfold rnB at h
 rw [Bool.and_eq_true] at h
 obtain ⟨h1, h2⟩ := whole_pos h.1
 unfold Go.AM.numB numV
 rw [h1, h2, h.1, h.2]
 exact ⟨rfl, rfl⟩
theorem rn_val {v : List UInt8} (h : rnB v = true) : atoiV v = digV 0 v := (num_val (k := 9) (by decide) (rn_num h).1).trans (rn_num h).2
theorem rn_key (v : List UInt8) : (bif (bif (bif atoiOk v then decide ((v.length : Int) ≤ 9) else false) then decide (atoiV v ≥ 0) else false) then (Lib.itoa (atoiV v) == v) else false) = rnB v := by
 have hd : decide ((v.length : Int) ≤ 9) = decide (v.length ≤ 9) := by rw [Bool.eq_iff_iff]; simp only [decide_eq_true_eq]; omega
 rw [hd, Bool.eq_iff_iff]
 constructor
 ·intro h
  cases h1 : atoiOk v with
  | false => rw [h1] at h; cases h
  | true =>
  cases h2 : decide (v.length ≤ 9) with
  | false => rw [h1, h2] at h; cases h
  | true =>
  cases h3 : decide (atoiV v ≥ 0) with
  | false => rw [h1, h2, h3] at h; cases h
  | true =>
  rw [h1, h2, h3] at h
  have h4 : (Lib.itoa (atoiV v) == v) = true := h
  have hl : (unsign v).length ≤ 9 := by
   have := of_decide_eq_true h2
   rcases unsign_cases v with ⟨_, q⟩ | ⟨_, q⟩
   ·have := congrArg List.length q; simp at this; omega
   ·rw [q]; omega
  have hn : Go.AM.numB 9 v = true := by
   rw [← num_iff (k := 9) (by decide), h1, h4, decide_eq_true hl]; rfl
  have hv := num_val (k := 9) (by decide) hn
  have h0 := of_decide_eq_true h3
  rw [hv] at h0
  unfold Go.AM.numB at hn
  simp only [Bool.and_eq_true, decide_eq_true_eq, Bool.not_eq_true', Bool.and_eq_false_imp, decide_eq_false_iff_not] at hn
  unfold numV at h0
  rcases unsign_cases v with ⟨q1, _⟩ | ⟨q1, q⟩
  ·rw [q1] at h0
   have := hn.2 q1
   simp only [_root_.cond_true] at h0
   omega
  ·unfold rnB
   rw [h2, Bool.and_true, ← q]
   exact hn.1.1
 ·intro h
  obtain ⟨hn, _⟩ := rn_num h
  have hv := rn_val h
  have hk := (num_iff (k := 9) (by decide) v).trans hn
  rw [Bool.and_eq_true, Bool.and_eq_true] at hk
  unfold rnB at h
  rw [Bool.and_eq_true] at h
  rw [hk.1.1, h.2, decide_eq_true (by omega : atoiV v ≥ 0)]
  exact hk.2
theorem G31x1_eq (v : List UInt8) (hv : v.length ≤ 281474976710656) (b : Bool) : G31x1 N v b = some (atoiV v, b && rnB v) := by
 have hb : Nat.ble v.length 281474976710656 = true := by rw [Nat.ble_eq]; exact hv
 have hn := rn_key v
 unfold G31x1 F31x1 G31x1x7 F31x1x7
 rw [hb, ← hn]
 cases b with
 | false => rfl
 | true =>
  cases ha : atoiOk v with
  | false => rfl
  | true =>
   cases decide ((v.length : Int) ≤ 9) with
   | false => rfl
   | true =>
    cases decide (atoiV v ≥ 0) with
    | false => rfl
    | true => rw [i64_atoi ha]; rfl
theorem at_dropU {xs r : List UInt8} {p : UInt8} {i : Nat} (h : xs.drop i = p :: r) : i < xs.length ∧ xs.getD i 0 = p ∧ xs.drop (i + 1) = r := by
 have hl := congrArg List.length h
 rw [List.length_drop, List.length_cons] at hl
 have hi : i < xs.length := by omega
 rw [List.drop_eq_getElem_cons hi] at h
 injection h with h1 h2
 exact ⟨hi, by rw [List.getD_eq_getElem?_getD, List.getElem?_eq_getElem hi]; exact h1, h2⟩
end Go.Proofs.YthifhnmfecjjcaaGreatDoor

namespace Go.Proofs.YthifhnmfecjjcaaGreatDoor
open Go Go.AM
set_option maxRecDepth 100000
set_option maxHeartbeats 4000000
set_option linter.unusedVariables false
variable {N : Nat}
def hexI (c : UInt8) : Int := Lib.indexByte [48, 49, 50, 51, 52, 53, 54, 55, 56, 57, 97, 98, 99, 100, 101, 102] c
def hx (a b : UInt8) : D := .i (IntKind.wrap .u8 (IntKind.wrap .i64 (IntKind.wrap .i64 (16 * hexI a) + hexI b)))
def hexP : List UInt8 → Option (List D)
 | a :: b :: r => bif (bif decide (hexI a < 0) then true else decide (hexI b < 0)) then none else (hexP r).map fun l => hx a b :: l
 | _ => some []
def hexD (v : List UInt8) : Option (Bool × List D) :=
 bif v == ([45] : List UInt8) then some (true, []) else bif decide (1 ≤ v.length) && decide (v.length % 2 = 0) then (hexP v).map fun xs => (xs.isEmpty, xs) else none
theorem V60x0_eq (c : UInt8) : V60x0 N (c.toNat : Int) = hexI c := by
 unfold V60x0 F60x0 V79x0 F79x0 hexI
 rw [bnd_eq, Int.toNat_natCast]
 rw [show c.toNat.toUInt8 = c from UInt8.ofNat_toNat]
theorem at_drop2 {xs r : List UInt8} {p q : UInt8} {i : Nat} (h : xs.drop i = p :: q :: r) : i + 1 < xs.length ∧ xs.getD i 0 = p ∧ xs.getD (i + 1) 0 = q ∧ xs.drop (i + 2) = r := by
 obtain ⟨h1, h2, h3⟩ := at_dropU h
 obtain ⟨h4, h5, h6⟩ := at_dropU h3
 exact ⟨h4, h2, h5, h6⟩
theorem roomOk {n k : Nat} (hn : n ≤ 100000000) (hk : k ≤ 100) : (decide ((n + 1) * k ≤ room) && decide (n + 1 ≤ strMax)) = true := by
 have : (n + 1) * k ≤ 100000001 * 100 := Nat.mul_le_mul (by omega) hk
 rw [decide_eq_true (by unfold room; omega), decide_eq_true (by unfold strMax; omega)]; rfl
theorem hex33 {u : List UInt8} (hu : u.length ≤ 10000000) : ∀ (n : Nat) (r : List UInt8) (i m : Nat) (fl : Bool) (acc : List D), r.length ≤ n → u.drop i = r → i ≤ u.length → acc.length ≤ i → r.length < m →
  (hexP r = none → ∃ p, L33x0x15 N (R := Sum (Bool × LD) (Bool × LD)) u m (i : Int) fl acc (fun p => some (.inl p)) (fun p => some (.inr p)) = some (.inl p)) ∧
  (∀ xs, hexP r = some xs → L33x0x15 N (R := Sum (Bool × LD) (Bool × LD)) u m (i : Int) fl acc (fun p => some (.inl p)) (fun p => some (.inr p)) = some (.inr (fl && xs.isEmpty, acc ++ xs))) := by
 intro n
 induction n with
 | zero =>
  intro r i m fl acc hn hd hi ha hm
  have : r = [] := List.eq_nil_of_length_eq_zero (by omega)
  subst this
  obtain ⟨m, rfl⟩ : ∃ k, m = k + 1 := ⟨m - 1, by simp at hm; omega⟩
  have hl := congrArg List.length hd
  simp at hl
  have hw : IntKind.wrap .i64 ((i : Int) + 1) = ((i + 1 : Nat) : Int) := wrapI (by omega) (by omega)
  have : ¬ ((i + 1 : Nat) : Int) < (u.length : Int) := by omega
  simp only [hexP, L33x0x15, S33x0x15, hw, decide_eq_false this, _root_.cond_false]
  exact ⟨fun h => (by cases h), fun xs h => (by cases h; simp)⟩
 | succ n ih =>
  intro r i m fl acc hn hd hi ha hm
  obtain ⟨m, rfl⟩ : ∃ k, m = k + 1 := ⟨m - 1, by omega⟩
  have hl := congrArg List.length hd
  simp at hl
  have hw : IntKind.wrap .i64 ((i : Int) + 1) = ((i + 1 : Nat) : Int) := wrapI (by omega) (by omega)
  match r, hd, hl, hn, hm with
  | [], _, hl, _, _ =>
   simp at hl
   have : ¬ ((i + 1 : Nat) : Int) < (u.length : Int) := by omega
   simp only [hexP, L33x0x15, S33x0x15, hw, decide_eq_false this, _root_.cond_false]
   exact ⟨fun h => (by cases h), fun xs h => (by cases h; simp)⟩
  | [a], _, hl, _, _ =>
   simp at hl
   have : ¬ ((i + 1 : Nat) : Int) < (u.length : Int) := by omega
   simp only [hexP, L33x0x15, S33x0x15, hw, decide_eq_false this, _root_.cond_false]
   exact ⟨fun h => (by cases h), fun xs h => (by cases h; simp)⟩
  | a :: b :: r, hd, hl, hn, hm =>
   obtain ⟨h1, h2, h3, h4⟩ := at_drop2 hd
   have hlt : ((i + 1 : Nat) : Int) < (u.length : Int) := by omega
   have hin : inB (i : Int) u.length = true := inB_of (by omega) (by omega)
   have hin2 : inB ((i + 1 : Nat) : Int) u.length = true := inB_of (by omega) (by omega)
   have hw2 : IntKind.wrap .i64 ((i : Int) + 2) = ((i + 2 : Nat) : Int) := wrapI (by omega) (by omega)
   have hroom := roomOk (n := acc.length) (k := 1) (by omega) (by omega)
   simp only [hexP, L33x0x15, S33x0x15, hw, hw2, decide_eq_true hlt, _root_.cond_true, hin, hin2, bnd_eq, Int.toNat_natCast, h2, h3, V60x0_eq, hroom]
   cases hbad : (bif decide (hexI a < 0) then true else decide (hexI b < 0)) with
   | true =>
    simp only [_root_.cond_true]
    exact ⟨fun _ => ⟨_, rfl⟩, fun xs h => (by cases h)⟩
   | false =>
    simp only [_root_.cond_false]
    have hi2 := ih r (i + 2) m false (acc ++ [hx a b]) (by simp at hn; omega) h4 (by omega) (by simp; omega) (by simp at hm; omega)
    have e : (acc ++ [hx a b]) = acc ++ [D.i (IntKind.wrap .u8 (IntKind.wrap .i64 (IntKind.wrap .i64 (16 * hexI a) + hexI b)))] := rfl
    rw [← e]
    cases hp : hexP r with
    | none => exact ⟨fun _ => hi2.1 hp, fun xs h => (by cases h)⟩
    | some ys =>
     refine ⟨fun h => (by cases h), fun xs h => ?_⟩
     simp only [Option.map_some, Option.some.injEq] at h
     subst h
     rw [hi2.2 ys hp]
     simp
theorem mod2 (n : Nat) : ((n : Int).tmod 2 == 0) = decide (n % 2 = 0) := by
 rw [Bool.eq_iff_iff, beq_iff_eq, decide_eq_true_eq, Int.tmod_eq_emod_of_nonneg (by omega)]; omega
theorem G33x0_eq (hN : maxLen < N) (v : List UInt8) (hv : v.length ≤ 10000000) : ∃ p : Bool × LD, G33x0 N v = some (p.1, p.2, (hexD v).isSome) ∧ ∀ q, hexD v = some q → p = q := by
 have hM : maxLen = 9223372036854775807 := rfl
 unfold G33x0 F33x0 hexD
 cases h0 : v == ([45] : List UInt8) with
 | true => exact ⟨(true, []), rfl, fun q hq => by cases hq; rfl⟩
 | false =>
  simp only [_root_.cond_false, mod2]
  have hl := hex33 (N := N) hv v.length v 0 N true [] (Nat.le_refl _) rfl (by omega) (by simp) (by omega)
  have hd : (bif decide ((v.length : Int) > 0) then decide (v.length % 2 = 0) else false) = (decide (1 ≤ v.length) && decide (v.length % 2 = 0)) := by
   rw [show decide ((v.length : Int) > 0) = decide (1 ≤ v.length) by rw [Bool.eq_iff_iff]; simp only [decide_eq_true_eq]; omega]
   cases decide (1 ≤ v.length) <;> rfl
  rw [hd]
  cases hp : hexP v with
  | none =>
   obtain ⟨p, q⟩ := hl.1 hp
   have q : G33x0x15 N v 0 true [] = some (.inl p) := q
   rw [q]
   refine ⟨(true, []), ?_, fun q hq => ?_⟩
   ·simp only [bnd_eq, Option.map_none]
    cases (decide (1 ≤ v.length) && decide (v.length % 2 = 0)) <;> rfl
   ·simp only [Option.map_none] at hq
    cases hc : (decide (1 ≤ v.length) && decide (v.length % 2 = 0)) <;> rw [hc] at hq <;> cases hq
  | some xs =>
   have q : G33x0x15 N v 0 true [] = some (.inr (true && xs.isEmpty, [] ++ xs)) := hl.2 xs hp
   rw [q]
   refine ⟨(xs.isEmpty, xs), ?_, fun q hq => ?_⟩
   ·simp only [bnd_eq, Option.map_some]
    cases (decide (1 ≤ v.length) && decide (v.length % 2 = 0)) <;> rfl
   ·simp only [Option.map_some] at hq
    cases hc : (decide (1 ≤ v.length) && decide (v.length % 2 = 0)) <;> rw [hc] at hq <;> cases hq
    rfl
def okW (s : List UInt8) : Bool := match splitL 58 s with
 | [a, b, c] => rnB a && rnB b && rnB c
 | _ => false
def fldW (s : List UInt8) : D := match splitL 58 s with
 | [a, b, c] => .a [.i (digV 0 a), .i (digV 0 b), .i (digV 0 c)]
 | _ => .i 0
end Go.Proofs.YthifhnmfecjjcaaGreatDoor

namespace Go.Proofs.YthifhnmfecjjcaaGreatDoor
open Go Go.AM
set_option maxRecDepth 100000
set_option maxHeartbeats 4000000
set_option linter.unusedVariables false
variable {N : Nat}
theorem at_dropD {xs r : List D} {p : D} {i : Nat} (h : xs.drop i = p :: r) : i < xs.length ∧ xs.getD i (.i 0) = p ∧ xs.drop (i + 1) = r := by
 have hl := congrArg List.length h
 rw [List.length_drop, List.length_cons] at hl
 have hi : i < xs.length := by omega
 rw [List.drop_eq_getElem_cons hi] at h
 injection h with h1 h2
 exact ⟨hi, by rw [List.getD_eq_getElem?_getD, List.getElem?_eq_getElem hi]; exact h1, h2⟩
def okD (d : D) : Bool := okW d.toS
def fldO (d : D) : D := fldW d.toS
theorem flds12 {ws : List D} (hw : ws.length ≤ 10000001) (hs : ∀ d ∈ ws, d.toS.length ≤ 10000000) : ∀ (r : List D) (i m : Nat) (b fl : Bool) (acc : List D), ws.drop i = r → i ≤ ws.length → acc.length ≤ i → r.length < m →
  ∃ R, L12x0x36 N (R := Sum (Bool × LD) (Bool × Bool × LD)) ws ws.length m (i : Int) b fl acc (fun p => some (.inl p)) (fun p => some (.inr p)) = some R ∧
   ((∃ p, R = .inl p ∧ r.all okD = false) ∨ (∃ fl' acc', R = .inr (b && r.all okD, fl', acc') ∧ (r.all okD = true → fl' = (fl && r.isEmpty) ∧ acc' = acc ++ r.map fldO)))
 | _, _, 0, _, _, _, _, _, _, hm => by omega
 | [], i, m + 1, b, fl, acc, hd, hi, ha, _ => by
  have hl := congrArg List.length hd
  simp at hl
  have : ¬ (i : Int) < (ws.length : Int) := by omega
  simp only [L12x0x36, S12x0x36, decide_eq_false this, _root_.cond_false]
  exact ⟨_, rfl, .inr ⟨fl, acc, by simp, fun _ => by simp⟩⟩
 | d :: r, i, m + 1, b, fl, acc, hd, hi, ha, hm => by
  obtain ⟨h1, h2, h3⟩ := at_dropD hd
  have hmem : d ∈ ws := List.mem_of_mem_drop (by rw [hd]; simp)
  have hlt : (i : Int) < (ws.length : Int) := by omega
  have hin : inB (i : Int) ws.length = true := inB_of (by omega) (by omega)
  have hblt : Nat.blt d.toS.length 4294967281 = true := Nat.ble_eq_true_of_le (by have := hs d hmem; omega)
  have hpc : ∀ p ∈ splitL 58 d.toS, p.length ≤ 281474976710656 := fun p hp => by have := splitL_piece hp; have := hs d hmem; omega
  have hw2 : IntKind.wrap .i64 ((i : Int) + 1) = ((i + 1 : Nat) : Int) := wrapI (by omega) (by omega)
  have hroom := roomOk (n := acc.length) (k := 24) (by omega) (by omega)
  simp only [L12x0x36, S12x0x36, decide_eq_true hlt, _root_.cond_true, hin, Int.toNat_natCast, h2, hblt, Bool.true_and, List.isEmpty_cons, Bool.not_false, splitD_one]
  have hk : ∀ l, splitL 58 d.toS = l → okD d = (match l with | [a, b, c] => rnB a && rnB b && rnB c | _ => false) ∧ fldO d = (match l with | [a, b, c] => .a [.i (digV 0 a), .i (digV 0 b), .i (digV 0 c)] | _ => .i 0) := fun l hl => by
   unfold okD okW fldO fldW
   rw [hl]; exact ⟨rfl, rfl⟩
  match hsp : splitL 58 d.toS with
  | [] => exact ⟨_, rfl, .inl ⟨_, rfl, by rw [List.all_cons, (hk _ hsp).1]; rfl⟩⟩
  | [x] => exact ⟨_, rfl, .inl ⟨_, rfl, by rw [List.all_cons, (hk _ hsp).1]; rfl⟩⟩
  | [x, y] => exact ⟨_, rfl, .inl ⟨_, rfl, by rw [List.all_cons, (hk _ hsp).1]; rfl⟩⟩
  | x :: y :: z :: u :: q =>
   have e0 : (((strsD (x :: y :: z :: u :: q)).length : Int) != 3) = true := by
    simp only [strsD, List.length_map, List.length_cons, bne_iff_ne, ne_eq]; omega
   simp only [bnd_eq, e0, _root_.cond_true]
   exact ⟨_, rfl, .inl ⟨_, rfl, by rw [List.all_cons, (hk _ hsp).1]; rfl⟩⟩
  | [x, y, z] =>
   rw [hsp] at hpc
   have p1 := hpc x (by simp)
   have p2 := hpc y (by simp)
   have p3 := hpc z (by simp)
   have e0 : (((strsD [x, y, z]).length : Int) != 3) = false := rfl
   have e1 : inB 0 (strsD [x, y, z]).length = true := rfl
   have e2 : inB 1 (strsD [x, y, z]).length = true := rfl
   have e3 : inB 2 (strsD [x, y, z]).length = true := rfl
   have f0 : ((strsD [x, y, z]).getD 0 (.i 0)).toS = x := rfl
   have f1 : ((strsD [x, y, z]).getD 1 (.i 0)).toS = y := rfl
   have f2 : ((strsD [x, y, z]).getD 2 (.i 0)).toS = z := rfl
   have g0 : decide (0 < (strsD [x, y, z]).length) = true := rfl
   have g1 : decide (1 < (strsD [x, y, z]).length) = true := rfl
   have g2 : decide (2 < (strsD [x, y, z]).length) = true := rfl
   simp only [bnd_eq, e0, _root_.cond_false, _root_.cond_true, e1, e2, e3, f0, f1, f2, g0, g1, g2, G31x1_eq x p1, G31x1_eq y p2, G31x1_eq z p3, Option.isSome_some, getD_some, hroom, hw2]
   obtain ⟨R, q1, q2⟩ := flds12 hw hs r (i + 1) m (b && rnB x && rnB y && rnB z) false (acc ++ [.a [.i (atoiV x), .i (atoiV y), .i (atoiV z)]]) h3 (by omega) (by simp; omega) (by simp at hm; omega)
   refine ⟨R, q1, ?_⟩
   have ho : okD d = (rnB x && rnB y && rnB z) := (hk _ hsp).1
   have hf : fldO d = .a [.i (digV 0 x), .i (digV 0 y), .i (digV 0 z)] := (hk _ hsp).2
   rcases q2 with ⟨p, e, q⟩ | ⟨fl', acc', e, q⟩
   ·exact .inl ⟨p, e, by rw [List.all_cons, q, Bool.and_false]⟩
   ·refine .inr ⟨fl', acc', ?_, fun hall => ?_⟩
    ·rw [e, List.all_cons, ho]
     simp only [Bool.and_assoc]
    ·rw [List.all_cons, Bool.and_eq_true, ho, Bool.and_eq_true, Bool.and_eq_true] at hall
     obtain ⟨r1, r2⟩ := q hall.2
     refine ⟨by rw [r1]; simp, ?_⟩
     rw [r2, List.map_cons, hf, rn_val hall.1.1.1, rn_val hall.1.1.2, rn_val hall.1.2]
     simp
end Go.Proofs.YthifhnmfecjjcaaGreatDoor

namespace Go.Proofs.YthifhnmfecjjcaaGreatDoor
open Go Go.AM
set_option maxRecDepth 100000
set_option maxHeartbeats 4000000
set_option linter.unusedVariables false
set_option linter.unusedSimpArgs false
variable {N : Nat}
abbrev sData : List UInt8 := [100, 97, 116, 97]
abbrev sShort : List UInt8 := [115, 104, 111, 114, 116]
abbrev sDefine : List UInt8 := [100, 101, 102, 105, 110, 101]
abbrev sLittle : List UInt8 := [108, 105, 116, 116, 108, 101]
abbrev sBig : List UInt8 := [98, 105, 103]
abbrev Ent : Type := Int × Int × Int × Bool × LD × Bool × LD
def entW : List (List UInt8) → Option Ent
 | k :: a :: r =>
  bif k == sData && decide (r.length = 1) then (bif rnB a then (hexD (r.getD 0 [])).map (fun p => ((2 : Int), (digV 0 a : Int), (0 : Int), true, ([] : LD), p.1, p.2)) else none)
  else bif k == sShort && decide (r.length = 2) then (bif rnB a && rnB (r.getD 0 []) then (hexD (r.getD 1 [])).map (fun p => ((3 : Int), (digV 0 a : Int), (digV 0 (r.getD 0 []) : Int), true, ([] : LD), p.1, p.2)) else none)
  else bif k == sDefine && decide (2 ≤ r.length) then (bif rnB a && rnB (r.getD 0 []) && (r.getD 1 [] == sLittle || r.getD 1 [] == sBig) && (r.drop 2).all okW then
   some ((1 : Int), (digV 0 a : Int), (0 : Int), false, [D.a [.b (r.getD 1 [] == sBig), .i (digV 0 (r.getD 0 [])), .l (r.drop 2).isEmpty ((r.drop 2).map fldW)]], true, ([] : LD)) else none)
  else none
 | _ => none
theorem entW_cons (k a : List UInt8) (r : List (List UInt8)) : entW (k :: a :: r) = (
  bif k == sData && decide (r.length = 1) then (bif rnB a then (hexD (r.getD 0 [])).map (fun p => ((2 : Int), (digV 0 a : Int), (0 : Int), true, ([] : LD), p.1, p.2)) else none)
  else bif k == sShort && decide (r.length = 2) then (bif rnB a && rnB (r.getD 0 []) then (hexD (r.getD 1 [])).map (fun p => ((3 : Int), (digV 0 a : Int), (digV 0 (r.getD 0 []) : Int), true, ([] : LD), p.1, p.2)) else none)
  else bif k == sDefine && decide (2 ≤ r.length) then (bif rnB a && rnB (r.getD 0 []) && (r.getD 1 [] == sLittle || r.getD 1 [] == sBig) && (r.drop 2).all okW then
   some ((1 : Int), (digV 0 a : Int), (0 : Int), false, [D.a [.b (r.getD 1 [] == sBig), .i (digV 0 (r.getD 0 [])), .l (r.drop 2).isEmpty ((r.drop 2).map fldW)]], true, ([] : LD)) else none)
  else none) := rfl
def entP (v : List UInt8) : Option Ent := entW (splitL 32 v)
def hold (p : Int × Int × Int × Bool × LD × Bool × LD × Bool) (e : Option Ent) : Prop :=
 p.2.2.2.2.2.2.2 = e.isSome ∧ ∀ q, e = some q → (p.1, p.2.1, p.2.2.1, p.2.2.2.1, p.2.2.2.2.1, p.2.2.2.2.2.1, p.2.2.2.2.2.2.1) = q
theorem hold_none {p : Int × Int × Int × Bool × LD × Bool × LD × Bool} {e : Option Ent} (he : e = none) (h : p.2.2.2.2.2.2.2 = false) : hold p e := by
 subst he
 exact ⟨h, fun q hq => by cases hq⟩
theorem hold_some {p : Int × Int × Int × Bool × LD × Bool × LD × Bool} {e : Option Ent} {q : Ent} (he : e = some q) (h : p = (q.1, q.2.1, q.2.2.1, q.2.2.2.1, q.2.2.2.2.1, q.2.2.2.2.2.1, q.2.2.2.2.2.2, true)) : hold p e := by
 subst he h
 exact ⟨rfl, fun q' hq => by cases hq; rfl⟩
theorem orders_eq (hN : maxLen < N) (o : List UInt8) : G32x0 N (V22x0 N) o = some (bif o == sLittle then 0 else bif o == sBig then 1 else -1) := by
 have hM : maxLen = 9223372036854775807 := rfl
 have k : G32x0x6 N (V22x0 N) o ((V22x0 N).length : Int) 0 = some (bif o == sLittle then .inl 0 else bif o == sBig then .inl 1 else .inr ()) := by
  unfold G32x0x6
  generalize hm : N = m'
  obtain ⟨m, rfl⟩ : ∃ m, m' = m + 3 := ⟨m' - 3, by omega⟩
  have hV : V22x0 (m + 3) = [.s sLittle, .s sBig] := rfl
  rw [hV]
  have e0 : ([D.s sLittle, .s sBig].getD (0 : Int).toNat (.i 0)).toS = sLittle := rfl
  have e1 : ([D.s sLittle, .s sBig].getD (1 : Int).toNat (.i 0)).toS = sBig := rfl
  have w1 : IntKind.wrap .i64 ((0 : Int) + 1) = 1 := by decide
  have w2 : IntKind.wrap .i64 ((1 : Int) + 1) = 2 := by decide
  have i0 : inB 0 [D.s sLittle, .s sBig].length = true := rfl
  have i1 : inB 1 [D.s sLittle, .s sBig].length = true := rfl
  have l0 : decide ((0 : Int) < (([D.s sLittle, .s sBig].length : Nat) : Int)) = true := rfl
  have l1 : decide ((1 : Int) < (([D.s sLittle, .s sBig].length : Nat) : Int)) = true := rfl
  have l2 : decide ((2 : Int) < (([D.s sLittle, .s sBig].length : Nat) : Int)) = false := rfl
  simp only [L32x0x6, S32x0x6, l0, l1, l2, i0, i1, e0, e1, w1, w2, _root_.cond_true, _root_.cond_false]
  cases o == sLittle with
  | true => rfl
  | false =>
   cases o == sBig with
   | true => rfl
   | false => rfl
 unfold G32x0 F32x0
 rw [k]
 cases o == sLittle with
 | true => rfl
 | false =>
  cases o == sBig with
  | true => rfl
  | false => rfl
theorem strsD_len (w : List (List UInt8)) : (strsD w).length = w.length := by simp [strsD]
theorem inlB_l {α β : Type} (x : α) : inlB (some (Sum.inl x : Sum α β)) = true := rfl
theorem all_strs (ws : List (List UInt8)) : (strsD ws).all okD = ws.all okW := by
 unfold strsD
 rw [List.all_map]; rfl
theorem map_strs (ws : List (List UInt8)) : (strsD ws).map fldO = ws.map fldW := by
 unfold strsD
 rw [List.map_map]; rfl
theorem bigIdx (o : List UInt8) : (decide ((bif o == sLittle then (0 : Int) else bif o == sBig then 1 else -1) ≥ 0) = (o == sLittle || o == sBig)) ∧ (((bif o == sLittle then (0 : Int) else bif o == sBig then 1 else -1) == 1) = (o == sBig)) := by
 cases h1 : o == sLittle with
 | true =>
  have : o = sLittle := eq_of_beq h1
  subst this
  exact ⟨rfl, rfl⟩
 | false => cases o == sBig <;> exact ⟨rfl, rfl⟩
theorem short_none {k : List UInt8} {r : List (List UInt8)} (hr : r.length ≤ 2) : G12x0x18017 N false true (strsD (k :: r)) = some (.inr (.inr (.inr ()))) := by
 have hl : (strsD (k :: r)).length = r.length + 1 := by rw [strsD_len]; rfl
 have f0 : ((strsD (k :: r)).getD 0 (.i 0)).toS = k := rfl
 have c0 : inB 0 (strsD (k :: r)).length = true := by rw [hl]; exact inB_of (by omega) (by omega)
 have d0 : decide (0 < (strsD (k :: r)).length) = true := decide_eq_true (by rw [hl]; omega)
 have n4 : ∀ b, (bif b then (((strsD (k :: r)).length : Int) == 4) else false) = false := fun b => by
  rw [show (((strsD (k :: r)).length : Int) == 4) = false by rw [hl, beq_eq_false_iff_ne]; omega]
  cases b <;> rfl
 have g4 : ∀ b, (bif b then decide (((strsD (k :: r)).length : Int) ≥ 4) else false) = false := fun b => by
  rw [decide_eq_false (by rw [hl]; omega)]
  cases b <;> rfl
 unfold G12x0x18017 F12x0x18017
 simp only [_root_.cond_false, c0, d0, f0, n4, g4, _root_.cond_true, bnd_eq]
theorem G12x0_eq (hN : maxLen < N) (v : List UInt8) (hv : v.length ≤ 10000000) : ∃ p, G12x0 N v = some p ∧ hold p (entP v) := by
 have hM : maxLen = 9223372036854775807 := rfl
 have hb : Nat.blt v.length 4294967281 = true := Nat.ble_eq_true_of_le (by omega)
 have hpc : ∀ p ∈ splitL 32 v, p.length ≤ 10000000 := fun p hp => by have := splitL_piece hp; omega
 have hcount := splitL_length 32 v
 unfold G12x0 F12x0 entP
 rw [hb, splitD_one]
 simp only [Bool.true_and, List.isEmpty_cons, Bool.not_false, _root_.cond_true]
 generalize splitL 32 v = w at hpc hcount
 match w, hpc, hcount with
 | [], _, hcount => simp at hcount
 | [k], _, _ =>
  have f0 : ((strsD [k]).getD 0 (.i 0)).toS = k := rfl
  have c0 : inB 0 (strsD [k]).length = true := rfl
  have d0 : decide (0 < (strsD [k]).length) = true := rfl
  have n3 : ∀ b, (bif b then (((strsD [k]).length : Int) == 3) else false) = false := fun b => by cases b <;> rfl
  simp only [c0, d0, f0, n3, _root_.cond_true, bnd_eq, short_none (N := N) (k := k) (r := []) (by simp)]
  exact ⟨(0, 0, 0, true, [], true, [], false), rfl, hold_none rfl rfl⟩
 | [k, a], _, _ =>
  have f0 : ((strsD [k, a]).getD 0 (.i 0)).toS = k := rfl
  have c0 : inB 0 (strsD [k, a]).length = true := rfl
  have d0 : decide (0 < (strsD [k, a]).length) = true := rfl
  have n3 : ∀ b, (bif b then (((strsD [k, a]).length : Int) == 3) else false) = false := fun b => by cases b <;> rfl
  simp only [c0, d0, f0, n3, _root_.cond_true, bnd_eq, short_none (N := N) (k := k) (r := [a]) (by simp)]
  refine ⟨(0, 0, 0, true, [], true, [], false), rfl, hold_none ?_ rfl⟩
  rw [entW_cons]
  cases k == sData <;> cases k == sShort <;> cases k == sDefine <;> rfl
 | [k, a, d], hpc, _ =>
  have pa := hpc a (by simp)
  have pd := hpc d (by simp)
  have f0 : ((strsD [k, a, d]).getD 0 (.i 0)).toS = k := rfl
  have f1 : ((strsD [k, a, d]).getD 1 (.i 0)).toS = a := rfl
  have f2 : ((strsD [k, a, d]).getD 2 (.i 0)).toS = d := rfl
  have c0 : inB 0 (strsD [k, a, d]).length = true := rfl
  have c1 : inB 1 (strsD [k, a, d]).length = true := rfl
  have c2 : inB 2 (strsD [k, a, d]).length = true := rfl
  have d0 : decide (0 < (strsD [k, a, d]).length) = true := rfl
  have d1 : decide (1 < (strsD [k, a, d]).length) = true := rfl
  have d2 : decide ((2 : Int).toNat < (strsD [k, a, d]).length) = true := rfl
  have n2 : IntKind.wrap .i64 (((strsD [k, a, d]).length : Int) - 1) = 2 := (by decide : IntKind.wrap .i64 (((3 : Nat) : Int) - 1) = 2)
  have n3 : ∀ b, (bif b then (((strsD [k, a, d]).length : Int) == 3) else false) = b := fun b => by cases b <;> rfl
  have f2' : ((strsD [k, a, d]).getD (2 : Int).toNat (.i 0)).toS = d := rfl
  simp only [c0, d0, f0, n3, _root_.cond_true, bnd_eq]
  cases hk : k == sData with
  | true =>
   have e : G12x0x18017 N true true (strsD [k, a, d]) = some (.inl (rnB a, 2, atoiV a, 0)) := by
    unfold G12x0x18017 F12x0x18017
    simp only [_root_.cond_true, c1, d1, f1, G31x1_eq a (by omega : a.length ≤ 281474976710656), bnd_eq, Option.isSome_some, getD_some, Bool.true_and]
   obtain ⟨p, g1, g2⟩ := G33x0_eq hN d pd
   rw [e]
   simp only [inlB_l, _root_.cond_true, n2, c2, d2, f2', g1, Option.isSome_some, getD_some, bnd_eq]
   refine ⟨(2, atoiV a, 0, true, [], p.1, p.2, bif rnB a then (hexD d).isSome else false), rfl, ?_⟩
   have hw : entW [k, a, d] = (bif rnB a then (hexD d).map (fun p => ((2 : Int), (digV 0 a : Int), (0 : Int), true, ([] : LD), p.1, p.2)) else none) := by
    rw [entW_cons, hk]; rfl
   rw [hw]
   cases ha : rnB a with
   | false => exact hold_none rfl rfl
   | true =>
    cases hd : hexD d with
    | none => exact hold_none rfl rfl
    | some q =>
     have := g2 q hd
     subst this
     exact hold_some rfl (by rw [rn_val ha]; rfl)
  | false =>
   rw [short_none (N := N) (k := k) (r := [a, d]) (by simp)]
   refine ⟨(0, 0, 0, true, [], true, [], false), rfl, hold_none ?_ rfl⟩
   rw [entW_cons, hk]
   cases k == sShort <;> cases k == sDefine <;> rfl
 | k :: a :: g :: o :: ws, hpc, hcount =>
  have pa := hpc a (by simp)
  have pg := hpc g (by simp)
  have hl : (strsD (k :: a :: g :: o :: ws)).length = ws.length + 4 := by rw [strsD_len]; rfl
  have c0 : inB 0 (strsD (k :: a :: g :: o :: ws)).length = true := by rw [hl]; exact inB_of (by omega) (by omega)
  have c1 : inB 1 (strsD (k :: a :: g :: o :: ws)).length = true := by rw [hl]; exact inB_of (by omega) (by omega)
  have c2 : inB 2 (strsD (k :: a :: g :: o :: ws)).length = true := by rw [hl]; exact inB_of (by omega) (by omega)
  have c3 : inB 3 (strsD (k :: a :: g :: o :: ws)).length = true := by rw [hl]; exact inB_of (by omega) (by omega)
  have d0 : decide (0 < (strsD (k :: a :: g :: o :: ws)).length) = true := decide_eq_true (by rw [hl]; omega)
  have d1 : decide (1 < (strsD (k :: a :: g :: o :: ws)).length) = true := decide_eq_true (by rw [hl]; omega)
  have d2 : decide (2 < (strsD (k :: a :: g :: o :: ws)).length) = true := decide_eq_true (by rw [hl]; omega)
  have d3 : decide (3 < (strsD (k :: a :: g :: o :: ws)).length) = true := decide_eq_true (by rw [hl]; omega)
  have f0 : ((strsD (k :: a :: g :: o :: ws)).getD 0 (.i 0)).toS = k := rfl
  have f1 : ((strsD (k :: a :: g :: o :: ws)).getD 1 (.i 0)).toS = a := rfl
  have f2 : ((strsD (k :: a :: g :: o :: ws)).getD 2 (.i 0)).toS = g := rfl
  have f3 : ((strsD (k :: a :: g :: o :: ws)).getD 3 (.i 0)).toS = o := rfl
  have n3 : (((strsD (k :: a :: g :: o :: ws)).length : Int) == 3) = false := by rw [hl, beq_eq_false_iff_ne]; omega
  have ge4 : decide (((strsD (k :: a :: g :: o :: ws)).length : Int) ≥ 4) = true := decide_eq_true (by rw [hl]; omega)
  have n4 : (((strsD (k :: a :: g :: o :: ws)).length : Int) == 4) = decide (ws.length = 0) := by rw [hl, Bool.eq_iff_iff, beq_iff_eq, decide_eq_true_eq]; omega
  have sl : decide (4 ≤ ((strsD (k :: a :: g :: o :: ws)).length : Int)) = true := decide_eq_true (by rw [hl]; omega)
  have sl2 : decide (((strsD (k :: a :: g :: o :: ws)).length : Int) ≤ ((strsD (k :: a :: g :: o :: ws)).length : Int)) = true := decide_eq_true (Int.le_refl _)
  have dr : ((strsD (k :: a :: g :: o :: ws)).take ((strsD (k :: a :: g :: o :: ws)).length : Int).toNat).drop 4 = strsD ws := by rw [Int.toNat_natCast, List.take_length]; rfl
  have y1 : (bif (k == sData) then (((strsD (k :: a :: g :: o :: ws)).length : Int) == 3) else false) = false := by rw [n3]; cases k == sData <;> rfl
  have y1' : ∀ b, (bif b then (((strsD (k :: a :: g :: o :: ws)).length : Int) == 3) else false) = false := by rw [n3]; intro b; cases b <;> rfl
  simp only [c0, d0, f0, _root_.cond_true, bnd_eq, y1', y1]
  have hwe : entW (k :: a :: g :: o :: ws) = (bif k == sShort && decide (ws.length = 0) then (bif rnB a && rnB g then (hexD o).map (fun p => ((3 : Int), (digV 0 a : Int), (digV 0 g : Int), true, ([] : LD), p.1, p.2)) else none)
    else bif k == sDefine then (bif rnB a && rnB g && (o == sLittle || o == sBig) && ws.all okW then some ((1 : Int), (digV 0 a : Int), (0 : Int), false, [D.a [.b (o == sBig), .i (digV 0 g), .l ws.isEmpty (ws.map fldW)]], true, ([] : LD)) else none) else none) := by
   rw [entW_cons]
   have q1 : decide ((g :: o :: ws).length = 1) = false := decide_eq_false (by simp)
   have q2 : decide ((g :: o :: ws).length = 2) = decide (ws.length = 0) := by rw [Bool.eq_iff_iff]; simp
   have q3 : decide (2 ≤ (g :: o :: ws).length) = true := decide_eq_true (by simp)
   rw [q1, q2, q3, Bool.and_false, Bool.and_true]
   rfl
  rw [hwe]
  unfold G12x0x18017 F12x0x18017
  simp only [_root_.cond_false, c0, d0, f0, _root_.cond_true, bnd_eq, n4]
  rw [show (bif (k == ([115, 104, 111, 114, 116] : List UInt8)) then decide (ws.length = 0) else false) = (k == sShort && decide (ws.length = 0)) by cases k == sShort <;> rfl]
  cases hks : (k == sShort && decide (ws.length = 0)) with
  | true =>
   simp only [_root_.cond_true, c1, c2, d1, d2, f1, f2, G31x1_eq a (by omega : a.length ≤ 281474976710656), G31x1_eq g (by omega : g.length ≤ 281474976710656), bnd_eq, Option.isSome_some, getD_some, Bool.true_and]
   rw [Bool.and_eq_true, decide_eq_true_eq] at hks
   have hws : ws = [] := List.eq_nil_of_length_eq_zero hks.2
   subst hws
   have po := hpc o (by simp)
   obtain ⟨p, g1, g2⟩ := G33x0_eq hN o po
   refine ⟨(3, atoiV a, atoiV g, true, [], p.1, p.2, bif (rnB a && rnB g) then (hexD o).isSome else false), ?_, ?_⟩
   ·have n2 : IntKind.wrap .i64 (((strsD [k, a, g, o]).length : Int) - 1) = 3 := (by decide : IntKind.wrap .i64 (((4 : Nat) : Int) - 1) = 3)
    have f3' : ((strsD [k, a, g, o]).getD (3 : Int).toNat (.i 0)).toS = o := rfl
    have d3' : decide ((3 : Int).toNat < (strsD [k, a, g, o]).length) = true := rfl
    simp only [inlB_l, _root_.cond_true, n2, c3, d3', f3', g1, Option.isSome_some, getD_some]
    rfl
   ·cases ha : rnB a && rnB g with
    | false => exact hold_none rfl rfl
    | true =>
     rw [Bool.and_eq_true] at ha
     cases hd : hexD o with
     | none => exact hold_none rfl rfl
     | some q =>
      have := g2 q hd
      subst this
      exact hold_some rfl (by rw [rn_val ha.1, rn_val ha.2]; rfl)
  | false =>
   simp only [_root_.cond_false, ge4]
   rw [show (bif (k == ([100, 101, 102, 105, 110, 101] : List UInt8)) then true else false) = (k == sDefine) by cases k == sDefine <;> rfl]
   cases hkd : (k == sDefine) with
   | false => exact ⟨(0, 0, 0, true, [], true, [], false), rfl, hold_none rfl rfl⟩
   | true =>
    simp only [_root_.cond_true, c1, c2, c3, d1, d2, d3, f1, f2, f3, orders_eq hN, G31x1_eq a (by omega : a.length ≤ 281474976710656), G31x1_eq g (by omega : g.length ≤ 281474976710656), bnd_eq, Option.isSome_some, getD_some, Bool.and_true, Bool.true_and, Bool.and_self, sl, sl2, dr, (bigIdx o).1, (bigIdx o).2]
    have hsz : ∀ d ∈ strsD ws, d.toS.length ≤ 10000000 := by
     intro d hd
     unfold strsD at hd
     obtain ⟨x, hx, rfl⟩ := List.mem_map.1 hd
     exact hpc x (by simp [hx])
    obtain ⟨R, q1, q2⟩ := flds12 (N := N) (ws := strsD ws) (by rw [strsD_len]; simp at hcount; omega) hsz (strsD ws) 0 N (rnB g) true [] rfl (by omega) (by simp) (by rw [strsD_len]; simp at hcount; omega)
    have q1 : G12x0x36 N (strsD ws) ((strsD ws).length : Int) 0 (rnB g) true [] = some R := q1
    rw [q1]
    rw [all_strs] at q2
    rcases q2 with ⟨p, rfl, hbad⟩ | ⟨fl', acc', rfl, hok⟩
    ·simp only [inlB_l, _root_.cond_true]
     refine ⟨(0, 0, 0, true, [], true, [], false), rfl, hold_none ?_ rfl⟩
     rw [hbad, Bool.and_false]; rfl
    ·simp only [inlB_inr, _root_.cond_false, inrQ_inr, Option.isSome_some, _root_.cond_true, getD_some]
     refine ⟨(1, atoiV a, 0, false, [.a [.b (o == sBig), .i (atoiV g), .l fl' acc']], true, [], bif (rnB g && ws.all okW && rnB a) then (o == sLittle || o == sBig) else false), rfl, ?_⟩
     cases hall : (rnB a && rnB g && (o == sLittle || o == sBig) && ws.all okW) with
     | false =>
      refine hold_none rfl ?_
      show (bif (rnB g && ws.all okW && rnB a) then (o == sLittle || o == sBig) else false) = false
      revert hall
      cases rnB g <;> cases ws.all okW <;> cases rnB a <;> cases (o == sLittle || o == sBig) <;> intro hall <;> first | rfl | cases hall
     | true =>
      simp only [Bool.and_eq_true] at hall
      obtain ⟨⟨⟨h1, h2⟩, h3⟩, h4⟩ := hall
      obtain ⟨r1, r2⟩ := hok h4
      refine hold_some rfl ?_
      rw [r1, r2, map_strs, rn_val h1, rn_val h2, h1, h2, h4, h3]
      cases ws <;> rfl
end Go.Proofs.YthifhnmfecjjcaaGreatDoor

namespace Go.Proofs.YthifhnmfecjjcaaGreatDoor
open Go Go.AM
set_option maxRecDepth 100000
set_option maxHeartbeats 4000000
set_option linter.unusedVariables false
set_option linter.unusedSimpArgs false
variable {N : Nat}
end Go.Proofs.YthifhnmfecjjcaaGreatDoor

namespace Go.Proofs.YthifhnmfecjjcaaGreatDoor
open Go Go.AM
set_option maxRecDepth 100000
set_option maxHeartbeats 4000000
set_option linter.unusedVariables false
set_option linter.unusedSimpArgs false
variable {N : Nat}
def cutL : List UInt8 → List UInt8 × Option (List UInt8)
 | [] => ([], none)
 | x :: r => bif x == 10 then ([], some r) else (x :: (cutL r).1, (cutL r).2)
theorem cutL_spec : ∀ l : List UInt8, ((cutL l).2 = none ∧ (cutL l).1 = l ∧ Lib.indexByte l 10 = -1) ∨ (∃ b, (cutL l).2 = some b ∧ l = (cutL l).1 ++ 10 :: b ∧ Lib.indexByte l 10 = (cutL l).1.length)
 | [] => .inl ⟨rfl, rfl, rfl⟩
 | x :: r => by
  unfold cutL Lib.indexByte
  cases hx : x == 10 with
  | true =>
   have : x = 10 := eq_of_beq hx
   subst this
   exact .inr ⟨r, rfl, rfl, rfl⟩
  | false =>
   simp only [_root_.cond_false, if_false, Bool.false_eq_true]
   rcases cutL_spec r with ⟨h1, h2, h3⟩ | ⟨b, h1, h2, h3⟩
   ·exact .inl ⟨h1, by rw [h2], by rw [h3]; rfl⟩
   ·refine .inr ⟨b, h1, by rw [List.cons_append, ← h2], ?_⟩
    rw [h3]
    have : ¬ ((((cutL r).1.length : Nat) : Int) == -1) = true := by rw [beq_iff_eq]; omega
    rw [if_neg this, List.length_cons]
    omega
theorem V57x0_eq (w : List UInt8) : V57x0 N w = Lib.indexByte w 10 := by
 unfold V57x0 F57x0 V79x0 F79x0
 rw [bnd_eq]
 cases h : ([10] : List UInt8) == w with
 | true =>
  have : [10] = w := eq_of_beq h
  subst this; rfl
 | false => rfl
theorem G11x0_eq (w : List UInt8) (hw : w.length ≤ 10000000) : G11x0 N w = some ((cutL w).1, (cutL w).2.getD [], (cutL w).2.isSome) := by
 unfold G11x0 F11x0 G29x0 F29x0
 rw [V57x0_eq]
 rcases cutL_spec w with ⟨h1, h2, h3⟩ | ⟨b, h1, h2, h3⟩
 ·rw [h3, h1, h2]; rfl
 ·have hl := congrArg List.length h2
  simp at hl
  have hw1 : IntKind.wrap .i64 (((cutL w).1.length : Int) + 1) = (((cutL w).1.length + 1 : Nat) : Int) := wrapI (by omega) (by omega)
  have q1 : decide ((((cutL w).1.length : Nat) : Int) ≥ 0) = true := decide_eq_true (by omega)
  have q2 : decide ((0 : Int) ≤ (((cutL w).1.length : Nat) : Int)) = true := decide_eq_true (by omega)
  have q3 : decide ((((cutL w).1.length : Nat) : Int) ≤ (w.length : Int)) = true := decide_eq_true (by omega)
  have q4 : decide ((0 : Int) ≤ (((cutL w).1.length + 1 : Nat) : Int)) = true := decide_eq_true (by omega)
  have q5 : decide ((((cutL w).1.length + 1 : Nat) : Int) ≤ (w.length : Int)) = true := decide_eq_true (by omega)
  rw [h3]
  simp only [bnd_eq, hw1, q1, q2, q3, q4, q5, decide_eq_true (Int.le_refl (w.length : Int)), Bool.and_self, _root_.cond_true, Option.isSome_some, getD_some, Int.toNat_natCast, List.take_length, List.drop_zero, h1]
  have gen : ∀ a : List UInt8, w = a ++ 10 :: b → w.take a.length = a ∧ w.drop (a.length + 1) = b := fun a ha => by
   rw [ha]
   exact ⟨by simp, by simp⟩
  obtain ⟨e1, e2⟩ := gen _ h2
  rw [e1, e2]
def entD (e : Ent) : D := .a [.i e.1, .i e.2.1, .i e.2.2.1, .l e.2.2.2.1 e.2.2.2.2.1, .l e.2.2.2.2.2.1 e.2.2.2.2.2.2]
end Go.Proofs.YthifhnmfecjjcaaGreatDoor

namespace Go.Proofs.YthifhnmfecjjcaaGreatDoor
open Go Go.AM
set_option maxRecDepth 100000
set_option maxHeartbeats 4000000
set_option linter.unusedVariables false
set_option linter.unusedSimpArgs false
variable {N : Nat}
def normD (d : D) : D := .a [.b (d.cell 0).toB, .i (d.cell 1).toI, .l (d.cell 2).items.isEmpty (d.cell 2).items]
def norm (x : D) : D := .a [.i (x.cell 0).toI, .i (x.cell 1).toI, .i (x.cell 2).toI, .l (!((x.cell 0).toI == 1)) ((x.cell 3).items.map normD), .l (x.cell 4).items.isEmpty (x.cell 4).items]
theorem normD_get (ds : List D) : (((ds.map normD).getD 0 (.i 0)).cell 0).toB = ((ds.getD 0 (.i 0)).cell 0).toB ∧ (((ds.map normD).getD 0 (.i 0)).cell 1).toI = ((ds.getD 0 (.i 0)).cell 1).toI ∧ (((ds.map normD).getD 0 (.i 0)).cell 2).items = ((ds.getD 0 (.i 0)).cell 2).items := by
 cases ds with
 | nil => exact ⟨rfl, rfl, rfl⟩
 | cons d r => exact ⟨rfl, rfl, rfl⟩
theorem entE_norm {kind slot off size time last : Int} {ds data : List D} {known : Bool} : entE kind slot off (ds.map normD) data known size time last = entE kind slot off ds data known size time last := by
 unfold entE
 rw [(normD_get ds).2.1, (normD_get ds).2.2, List.length_map]
theorem EntL.norm {ds data : List D} (h : EntL ds data) : EntL (ds.map normD) data := by
 refine ⟨by rw [List.length_map]; exact h.d, h.b, fun x hx => ?_, h.y⟩
 obtain ⟨d, hd, rfl⟩ := List.mem_map.1 hx
 exact h.f d hd
section
variable {kind slot off : Int} {ds data : List D} {p s : D} {k : Int}
theorem take_sim2 (hN : maxLen < N) (hs : Sim p s k) (he : EntL ds data) (h0 : 0 ≤ k) (h1 : k ≤ 100000) (hE : EntOk kind slot off ds data (p.cell (0 + slot.toNat * 6)).toB (p.cell (4 + slot.toNat * 6)).toI (p.cell (5 + slot.toNat * 6)).toI (p.cell 96).toI) :
  ∃ t p' s', G36x0 N kind slot off ds data p = some (t, p') ∧ G41x0 N kind slot off (ds.map normD) data s = some (t, s') ∧ Sim p' s' (k + 1) := by
 have hm : maxLen = 9223372036854775807 := rfl
 obtain ⟨i1, i2⟩ := hE.s
 by_cases hk1 : kind = 1
 ·unfold G36x0 F36x0 G36x0x15014 F36x0x15014 G41x0 F41x0
  rw [i1]
  subst hk1
  obtain ⟨d1, d2⟩ := hE.d rfl
  have hf := defE_ok d2
  have q1 := G63x0_eq hN hf
  simp only [List.length_map, beq_self_eq_true, _root_.cond_true, inB_of (i := 0) (n := ds.length) (by omega) (by omega), bnd_eq, q1, Option.isSome_some, getD_some, (normD_get ds).1, (normD_get ds).2.1, (normD_get ds).2.2]
  have e1 : decide ((-1 : Int) ≥ 0) = false := by decide
  rw [e1]
  refine ⟨_, _, _, rfl, rfl, ?_⟩
  show Sim ((((((p.put (0 + slot.toNat * 6) (.b true)).put (1 + slot.toNat * 6) (.b ((ds.getD 0 (.i 0)).cell 0).toB)).put (2 + slot.toNat * 6) (.i ((ds.getD 0 (.i 0)).cell 1).toI)).put (3 + slot.toNat * 6) (.l ((ds.getD 0 (.i 0)).cell 2).isNil ((ds.getD 0 (.i 0)).cell 2).items)).put (4 + slot.toNat * 6) (.i (szL ((ds.getD 0 (.i 0)).cell 2).items))).put (5 + slot.toNat * 6) (.i (tmL 0 ((ds.getD 0 (.i 0)).cell 2).items))) _ (k + 1)
  refine ⟨slots_put hs.toSlots i2 hf, ?_, ?_, ?_⟩
  ·rw [put6_last i2, (put4 i2 0 (by omega)).2.2.2.2]; exact hs.last
  ·rw [put6_last i2]; exact hs.lo
  ·rw [put6_last i2]; have := hs.hi; omega
 ·obtain ⟨t, p', s', q1, q2, hs', _, _, _⟩ := take_sim hN hs he h0 h1 hE
  refine ⟨t, p', s', q1, ?_, hs'⟩
  rw [← q2]
  have hk1' : (kind == 1) = false := by simpa using hk1
  unfold G41x0 F41x0
  rw [hk1']
  rfl
end
structure OkE (x : D) : Prop where
 k : 1 ≤ (x.cell 0).toI ∧ (x.cell 0).toI ≤ 3
 s : 0 ≤ (x.cell 1).toI ∧ (x.cell 1).toI ≤ 15
 o : 0 ≤ (x.cell 2).toI ∧ (x.cell 2).toI ≤ (bif (x.cell 0).toI == 3 then 31 else 0)
 d : (x.cell 0).toI = 1 → (x.cell 3).items.length = 1 ∧ (x.cell 4).items = [] ∧ defE (((x.cell 3).items.getD 0 (.i 0)).cell 1).toI (((x.cell 3).items.getD 0 (.i 0)).cell 2).items = 0
 n : (x.cell 0).toI ≠ 1 → (x.cell 3).items = [] ∧ (x.cell 4).items.length ≤ 100000
theorem entE_zero {kind slot off size time last : Int} {ds data : List D} {known : Bool} (h : entE kind slot off ds data known size time last = 0) :
  (0 ≤ slot ∧ slot ≤ 15) ∧ (0 ≤ off ∧ off ≤ (bif kind == 3 then 31 else 0)) ∧ (kind = 1 → data = []) := by
 unfold entE at h
 cases h1 : inI kind 1 3 with
 | false => rw [h1] at h; exact absurd (show (7 : Int) = 0 from h) (by decide)
 | true =>
 cases h2 : inI slot 0 (bif kind == 3 then 3 else 15) with
 | false => rw [h1, h2] at h; exact absurd (show (9 : Int) = 0 from h) (by decide)
 | true =>
 cases h3 : inI off 0 (bif kind == 3 then 31 else 0) with
 | false => rw [h1, h2, h3] at h; exact absurd (show (9 : Int) = 0 from h) (by decide)
 | true =>
 rw [h1, h2, h3] at h
 simp only [Bool.not_true, _root_.cond_false, Bool.or_self] at h
 unfold inI at h2 h3
 simp only [decide_eq_true_eq] at h2 h3
 refine ⟨?_, h3, fun hk => ?_⟩
 ·cases hk3 : kind == 3 <;> rw [hk3] at h2 <;> simp at h2 <;> omega
 ·subst hk
  simp only [beq_self_eq_true, _root_.cond_true] at h
  cases h4 : ((ds.length : Int) != 1) || decide ((data.length : Int) > 0) with
  | true => rw [h4] at h; exact absurd (show (2 : Int) = 0 from h) (by decide)
  | false =>
   simp only [Bool.or_eq_false_iff, decide_eq_false_iff_not] at h4
   exact List.eq_nil_of_length_eq_zero (by omega)
theorem ok_of {x p s : D} {k : Int} (hs : Sim p s k) (h : entE (x.cell 0).toI (x.cell 1).toI (x.cell 2).toI (x.cell 3).items (x.cell 4).items (p.cell (0 + (x.cell 1).toI.toNat * 6)).toB (p.cell (4 + (x.cell 1).toI.toNat * 6)).toI (p.cell (5 + (x.cell 1).toI.toNat * 6)).toI (p.cell 96).toI = 0) : OkE x := by
 have hE := entE_ok h
 obtain ⟨h1, h2, h3⟩ := entE_zero h
 refine ⟨hE.k, h1, h2, fun hk => ⟨(hE.d hk).1, h3 hk, (hE.d hk).2⟩, fun hk => ?_⟩
 obtain ⟨kn, hd⟩ := hE.n hk
 refine ⟨List.eq_nil_of_length_eq_zero hd, ?_⟩
 obtain ⟨d1, _, _, _, d5, _⟩ := hs.defs _ hE.s.2 kn
 have hb := szL_bound d1.size
 have hl := d1.len
 rw [← d5] at hb
 by_cases hk3 : (x.cell 0).toI = 3
 ·have := (hE.h hk3).2.2.2.2
  omega
 ·have := hE.t (by have := hE.k; omega)
  omega
theorem norm_cells (x : D) : ((norm x).cell 0).toI = (x.cell 0).toI ∧ ((norm x).cell 1).toI = (x.cell 1).toI ∧ ((norm x).cell 2).toI = (x.cell 2).toI ∧ ((norm x).cell 3).items = (x.cell 3).items.map normD ∧ ((norm x).cell 4).items = (x.cell 4).items := ⟨rfl, rfl, rfl, rfl, rfl⟩
theorem getD_map (es : List D) {i : Int} (h0 : 0 ≤ i) (h1 : i < es.length) : (es.map norm).getD i.toNat (.i 0) = norm (es.getD i.toNat (.i 0)) := by
 have hi : i.toNat < es.length := by omega
 rw [List.getD_eq_getElem?_getD, List.getElem?_map, List.getD_eq_getElem?_getD, List.getElem?_eq_getElem hi]
 rfl
theorem check_loop2 {es : List D} (hN : maxLen < N) (hes : ∀ x ∈ es, EntD x) (hl : es.length ≤ 50000) : ∀ (m : Nat) (i : Int) (p s : D), 0 ≤ i → i ≤ es.length → (es.length - i).toNat < m → Sim p s i →
  ∃ r : Sum Int Unit, L13x0x15 N es es.length m i p (fun p => some (.inl p)) (fun p => some (.inr p)) = some r ∧ L15x0x15 N (es.map norm) es.length m i s (fun p => some (.inl p)) (fun p => some (.inr p)) = some r ∧ (∀ e, r = .inl e → e ≠ 0) ∧ (∀ u, r = .inr u → ∀ x ∈ es.drop i.toNat, OkE x) := by
 intro m
 induction m with
 | zero => intro i p s _ _ h; omega
 | succ m ih =>
  intro i p s h0 h1 hm hs
  unfold L13x0x15 L15x0x15 S13x0x15 S15x0x15
  by_cases hi : i < es.length
  ·have he : EntD _ := hes _ (getD_mem (fs := es) h0 hi)
   obtain ⟨c0, c1, c2, c3, c4⟩ := norm_cells (es.getD i.toNat (.i 0))
   rw [decide_eq_true hi, List.length_map, inB_of h0 hi, getD_map es h0 hi, c0, c1, c2, c3, c4, G35x0_eq hN hs he, G40x0_eq hN hs he.norm, entE_norm]
   simp only [_root_.cond_true, bnd_eq, Option.isSome_some, getD_some]
   generalize hE : entE ((es.getD i.toNat (.i 0)).cell 0).toI ((es.getD i.toNat (.i 0)).cell 1).toI ((es.getD i.toNat (.i 0)).cell 2).toI ((es.getD i.toNat (.i 0)).cell 3).items ((es.getD i.toNat (.i 0)).cell 4).items _ _ _ _ = e
   by_cases hz : e = 0
   ·subst hz
    obtain ⟨t, p', s', q1, q2, hs'⟩ := take_sim2 hN hs he h0 (by omega) (entE_ok hE)
    have e0 : ((0 : Int) != 0) = false := by decide
    rw [e0, q1, q2]
    simp only [_root_.cond_false, Option.isSome_some, _root_.cond_true, getD_some, wrapI (x := i + 1) (by omega) (by omega)]
    obtain ⟨r, r1, r2, r3, r4⟩ := ih (i + 1) p' s' (by omega) (by omega) (by omega) hs'
    refine ⟨r, r1, r2, r3, fun u hu x hx => ?_⟩
    have hit : i.toNat < es.length := by omega
    rw [List.drop_eq_getElem_cons hit] at hx
    rcases List.mem_cons.1 hx with rfl | hx
    ·have := ok_of hs hE
     rw [List.getD_eq_getElem?_getD, List.getElem?_eq_getElem hit] at this
     exact this
    ·exact r4 u hu x (by rw [show (i + 1).toNat = i.toNat + 1 by omega]; exact hx)
   ·have e0 : (e != 0) = true := by simpa using hz
    rw [e0]
    exact ⟨.inl e, rfl, rfl, fun e' h => by simp at h; subst h; exact hz, fun u hu => by cases hu⟩
  ·rw [decide_eq_false hi]
   refine ⟨.inr (), rfl, rfl, fun e' h => by simp at h, fun u _ x hx => ?_⟩
   rw [List.drop_eq_nil_of_le (by omega)] at hx
   cases hx
theorem check_norm {es : List D} (hN : maxLen < N) (hes : ∀ x ∈ es, EntD x) : ∃ c, G13x0 N es = some c ∧ G15x0 N es = some c ∧ (c = 0 → G13x0 N (es.map norm) = some 0 ∧ es.length ≤ 50000 ∧ ∀ x ∈ es, OkE x) := by
 obtain ⟨c, c1, c2⟩ := check_file hN hes
 refine ⟨c, c1, c2, fun hc => ?_⟩
 subst hc
 by_cases hl : (es.length : Int) > 50000
 ·unfold G13x0 F13x0 at c1
  rw [decide_eq_true hl] at c1
  exact absurd (Option.some.inj (show some (3 : Int) = some 0 from c1)) (by decide)
 ·have hm : maxLen = 9223372036854775807 := rfl
  obtain ⟨r, q1, q2, q3, q4⟩ := check_loop2 hN hes (by omega) N 0 (V34x0 N) zeroS (by omega) (by omega) (by omega) zero70
  have k1 : G13x0x15 N es es.length 0 (V34x0 N) = some r := q1
  have k2 : G15x0x15 N (es.map norm) (es.map norm).length 0 zeroS = some r := by rw [List.length_map]; exact q2
  have k3 : G13x0 N es = bnd (G13x0x15 N es es.length 0 (V34x0 N)) (fun y1 => bif inlB y1 then some (inlV y1) else bif (inrQ y1).isSome then some 0 else none) := by
   unfold G13x0 F13x0
   rw [decide_eq_false hl]; rfl
  have k4 : G15x0 N (es.map norm) = bnd (G15x0x15 N (es.map norm) (es.map norm).length 0 zeroS) (fun y1 => bif inlB y1 then some (inlV y1) else bif (inrQ y1).isSome then some 0 else none) := by
   unfold G15x0 F15x0
   rw [decide_eq_false (by rw [List.length_map]; exact hl)]; rfl
  rw [k3, k1] at c1
  rw [k2] at k4
  cases r with
  | inl e => exact absurd (Option.some.inj (show some e = some 0 from c1)) (q3 e rfl)
  | inr u =>
   refine ⟨?_, by omega, fun x hx => q4 u rfl x hx⟩
   have hen : ∀ x ∈ es.map norm, EntD x := fun x hx => by
    obtain ⟨y, hy, rfl⟩ := List.mem_map.1 hx
    exact (hes y hy).norm
   obtain ⟨c', e1, e2⟩ := check_file hN hen
   rw [k4] at e2
   have : c' = 0 := (Option.some.inj (show some (0 : Int) = some c' from e2)).symm
   subst this
   exact e1
end Go.Proofs.YthifhnmfecjjcaaGreatDoor

namespace Go.Proofs.YthifhnmfecjjcaaGreatDoor
open Go Go.AM
set_option maxRecDepth 100000
set_option maxHeartbeats 4000000
set_option linter.unusedVariables false
set_option linter.unusedSimpArgs false
variable {N : Nat}
theorem num_facts {n : Int} (h0 : 0 ≤ n) (h1 : n < 1000000000) : rnB (Lib.itoa n) = true ∧ (digV 0 (Lib.itoa n) : Int) = n ∧ (Lib.itoa n).length ≤ 9 ∧ i64B n = true := by
 obtain ⟨q1, q2⟩ := itoa_num (k := 9) (n := n) (by decide) (by decide) (by omega)
 have e : Lib.itoa n = Lib.decDigits n.toNat := by
  unfold Lib.itoa
  rw [if_neg (by omega)]
 obtain ⟨w1, w2, _⟩ := decDigits_whole _ n.toNat (Nat.le_refl _)
 rw [e] at q1 q2 ⊢
 obtain ⟨p1, p2⟩ := whole_pos w1
 unfold Go.AM.numB at q1
 rw [p2, p1, w1] at q1
 simp only [Bool.true_and, Bool.false_and, Bool.not_false, Bool.and_true, decide_eq_true_eq] at q1
 refine ⟨?_, by rw [w2]; omega, q1, ?_⟩
 ·unfold rnB
  rw [w1, decide_eq_true q1]; rfl
 ·unfold i64B
  rw [decide_eq_true (by omega), decide_eq_true (by omega)]; rfl
theorem bytesD_app (a b : List UInt8) : bytesD (a ++ b) = bytesD a ++ bytesD b := by simp [bytesD]
theorem bytesD_len (a : List UInt8) : (bytesD a).length = a.length := by simp [bytesD]
def dgX (k : Int) : UInt8 := ([48, 49, 50, 51, 52, 53, 54, 55, 56, 57, 97, 98, 99, 100, 101, 102] : List UInt8).getD k.toNat 0
def hexF (l : List D) : List UInt8 := l.flatMap fun d => [dgX (d.toI / 16), dgX (d.toI % 16)]
def hexT (l : List D) : List UInt8 := bif decide (l.length = 0) then [45] else hexF l
theorem hexF_len (l : List D) : (hexF l).length = 2 * l.length := by
 induction l with
 | nil => rfl
 | cons d r ih =>
  have : hexF (d :: r) = [dgX (d.toI / 16), dgX (d.toI % 16)] ++ hexF r := by simp [hexF]
  rw [this, List.length_append, ih]; simp; omega
theorem hexT_len (l : List D) : (hexT l).length ≤ 2 * l.length + 1 := by
 unfold hexT
 cases decide (l.length = 0) with
 | true => simp
 | false => simp only [_root_.cond_false]; rw [hexF_len]; omega
theorem hex24 {u : List D} (hu : u.length ≤ 100000) (hb : BytesOk u) : ∀ (r : List D) (i m : Nat) (fl : Bool) (t : List UInt8), u.drop i = r → i ≤ u.length → t.length ≤ 2 * i → r.length < m →
  ∃ fl', L24x0x15 N (R := Bool × LD) u u.length m (i : Int) fl (bytesD t) (fun p => some p) = some (fl', bytesD (t ++ hexF r))
 | _, _, 0, _, _, _, _, _, hm => by omega
 | [], i, m + 1, fl, t, hd, hi, ht, _ => by
  have hl := congrArg List.length hd
  simp at hl
  have : ¬ (i : Int) < (u.length : Int) := by omega
  simp only [L24x0x15, S24x0x15, decide_eq_false this, _root_.cond_false]
  exact ⟨fl, by simp [hexF]⟩
 | d :: r, i, m + 1, fl, t, hd, hi, ht, hm => by
  obtain ⟨h1, h2, h3⟩ := at_dropD hd
  have hmem : d ∈ u := List.mem_of_mem_drop (by rw [hd]; simp)
  obtain ⟨b0, b1⟩ := hb d hmem
  have hlt : (i : Int) < (u.length : Int) := by omega
  have hin : inB (i : Int) u.length = true := inB_of (by omega) (by omega)
  have hw2 : IntKind.wrap .i64 ((i : Int) + 1) = ((i + 1 : Nat) : Int) := wrapI (by omega) (by omega)
  have k1 : IntKind.wrap .u8 (d.toI.tdiv 16) = d.toI / 16 := by
   rw [Int.tdiv_eq_ediv_of_nonneg b0, IntKind.wrap_u8]; omega
  have k2 : d.toI.tmod 16 = d.toI % 16 := Int.tmod_eq_emod_of_nonneg b0
  have n1 : inB (d.toI / 16) 16 = true := inB_of (by omega) (by omega)
  have n2 : inB (d.toI % 16) 16 = true := inB_of (by omega) (by omega)
  have hroom : (decide (((bytesD t).length + 2) * 1 ≤ room) && decide ((bytesD t).length + 2 ≤ strMax)) = true := by
   rw [bytesD_len, decide_eq_true (by unfold room; omega), decide_eq_true (by unfold strMax; omega)]; rfl
  simp only [L24x0x15, S24x0x15, decide_eq_true hlt, _root_.cond_true, hin, Int.toNat_natCast, h2, k1, k2, n1, n2, bnd_eq, hroom, hw2]
  have e : (bytesD t ++ [D.i ((([48, 49, 50, 51, 52, 53, 54, 55, 56, 57, 97, 98, 99, 100, 101, 102] : List UInt8).getD (d.toI / 16).toNat 0).toNat : Int), .i ((([48, 49, 50, 51, 52, 53, 54, 55, 56, 57, 97, 98, 99, 100, 101, 102] : List UInt8).getD (d.toI % 16).toNat 0).toNat : Int)]) = bytesD (t ++ [dgX (d.toI / 16), dgX (d.toI % 16)]) := by
   rw [bytesD_app]; rfl
  rw [e]
  obtain ⟨fl', q⟩ := hex24 hu hb r (i + 1) m false (t ++ [dgX (d.toI / 16), dgX (d.toI % 16)]) h3 (by omega) (by simp; omega) (by simp at hm; omega)
  exact ⟨fl', by rw [q]; simp [hexF]⟩
theorem G24x0_eq (hN : maxLen < N) {u : List D} (hu : u.length ≤ 100000) (hb : BytesOk u) : G24x0 N u = some (hexT u) := by
 have hM : maxLen = 9223372036854775807 := rfl
 unfold G24x0 F24x0 hexT
 have hz : ((u.length : Int) == 0) = decide (u.length = 0) := by rw [Bool.eq_iff_iff, beq_iff_eq, decide_eq_true_eq]; omega
 rw [hz]
 cases decide (u.length = 0) with
 | true => rfl
 | false =>
  obtain ⟨fl', q⟩ := hex24 (N := N) hu hb u 0 N true [] rfl (by omega) (by simp) (by omega)
  have q : G24x0x15 N u (u.length : Int) 0 true [] = some (fl', bytesD (hexF u)) := q
  rw [q]
  simp only [_root_.cond_false, bnd_eq, Option.isSome_some, _root_.cond_true, getD_some, strD_bytesD]
theorem hex56 {u : List D} (hu : u.length ≤ 100000) (hb : BytesOk u) : ∀ (r : List D) (i m : Nat) (fl : Bool) (t : List UInt8), u.drop i = r → i ≤ u.length → t.length ≤ 2 * i → r.length < m →
  ∃ fl', L56x0x15 N (R := Bool × LD) u u.length m (i : Int) fl (bytesD t) (fun p => some p) = some (fl', bytesD (t ++ hexF r))
 | _, _, 0, _, _, _, _, _, hm => by omega
 | [], i, m + 1, fl, t, hd, hi, ht, _ => by
  have hl := congrArg List.length hd
  simp at hl
  have : ¬ (i : Int) < (u.length : Int) := by omega
  simp only [L56x0x15, S56x0x15, decide_eq_false this, _root_.cond_false]
  exact ⟨fl, by simp [hexF]⟩
 | d :: r, i, m + 1, fl, t, hd, hi, ht, hm => by
  obtain ⟨h1, h2, h3⟩ := at_dropD hd
  have hmem : d ∈ u := List.mem_of_mem_drop (by rw [hd]; simp)
  obtain ⟨b0, b1⟩ := hb d hmem
  have hlt : (i : Int) < (u.length : Int) := by omega
  have hin : inB (i : Int) u.length = true := inB_of (by omega) (by omega)
  have hw2 : IntKind.wrap .i64 ((i : Int) + 1) = ((i + 1 : Nat) : Int) := wrapI (by omega) (by omega)
  have k1 : IntKind.wrap .u8 (d.toI.tdiv 16) = d.toI / 16 := by
   rw [Int.tdiv_eq_ediv_of_nonneg b0, IntKind.wrap_u8]; omega
  have k2 : d.toI.tmod 16 = d.toI % 16 := Int.tmod_eq_emod_of_nonneg b0
  have n1 : inB (d.toI / 16) 16 = true := inB_of (by omega) (by omega)
  have n2 : inB (d.toI % 16) 16 = true := inB_of (by omega) (by omega)
  have hroom : (decide (((bytesD t).length + 2) * 1 ≤ room) && decide ((bytesD t).length + 2 ≤ strMax)) = true := by
   rw [bytesD_len, decide_eq_true (by unfold room; omega), decide_eq_true (by unfold strMax; omega)]; rfl
  simp only [L56x0x15, S56x0x15, decide_eq_true hlt, _root_.cond_true, hin, Int.toNat_natCast, h2, k1, k2, n1, n2, bnd_eq, hroom, hw2]
  have e : (bytesD t ++ [D.i ((([48, 49, 50, 51, 52, 53, 54, 55, 56, 57, 97, 98, 99, 100, 101, 102] : List UInt8).getD (d.toI / 16).toNat 0).toNat : Int), .i ((([48, 49, 50, 51, 52, 53, 54, 55, 56, 57, 97, 98, 99, 100, 101, 102] : List UInt8).getD (d.toI % 16).toNat 0).toNat : Int)]) = bytesD (t ++ [dgX (d.toI / 16), dgX (d.toI % 16)]) := by
   rw [bytesD_app]; rfl
  rw [e]
  obtain ⟨fl', q⟩ := hex56 hu hb r (i + 1) m false (t ++ [dgX (d.toI / 16), dgX (d.toI % 16)]) h3 (by omega) (by simp; omega) (by simp at hm; omega)
  exact ⟨fl', by rw [q]; simp [hexF]⟩
theorem G56x0_eq (hN : maxLen < N) {u : List D} (hu : u.length ≤ 100000) (hb : BytesOk u) : G56x0 N u = some (hexT u) := by
 have hM : maxLen = 9223372036854775807 := rfl
 unfold G56x0 F56x0 hexT
 have hz : ((u.length : Int) == 0) = decide (u.length = 0) := by rw [Bool.eq_iff_iff, beq_iff_eq, decide_eq_true_eq]; omega
 rw [hz]
 cases decide (u.length = 0) with
 | true => rfl
 | false =>
  obtain ⟨fl', q⟩ := hex56 (N := N) hu hb u 0 N true [] rfl (by omega) (by simp) (by omega)
  have q : G56x0x15 N u (u.length : Int) 0 true [] = some (fl', bytesD (hexF u)) := q
  rw [q]
  simp only [_root_.cond_false, bnd_eq, Option.isSome_some, _root_.cond_true, getD_some, strD_bytesD]
structure OkF (fs : List D) : Prop where
 n : fs.length ≤ 30
 f : ∀ f ∈ fs, (0 ≤ (f.cell 0).toI ∧ (f.cell 0).toI ≤ 255) ∧ (0 ≤ (f.cell 1).toI ∧ (f.cell 1).toI ≤ 255) ∧ (0 ≤ (f.cell 2).toI ∧ (f.cell 2).toI ≤ 255)
theorem okF_of {g : Int} {fs : List D} (h : defE g fs = 0) : (0 ≤ g ∧ g ≤ 65535) ∧ OkF fs := by
 unfold defE at h
 cases h1 : inI g 0 65535 with
 | false => rw [h1] at h; exact absurd (show (9 : Int) = 0 from h) (by decide)
 | true =>
  rw [h1] at h
  cases h2 : decide ((fs.length : Int) > 30) with
  | true => rw [h2] at h; exact absurd (show (3 : Int) = 0 from h) (by decide)
  | false =>
   rw [h2] at h
   simp only [Bool.not_true, _root_.cond_false] at h
   unfold inI at h1
   refine ⟨of_decide_eq_true h1, by simp at h2; omega, fun f hf => ?_⟩
   obtain ⟨i, hi, rfl⟩ := List.getElem_of_mem hf
   have := firstE_zero h i hi
   rw [Int.zero_add] at this
   unfold fldE at this
   have hg : fs.getD ((i : Int)).toNat (.i 0) = fs[i] := by
    rw [List.getD_eq_getElem?_getD, Int.toNat_natCast, List.getElem?_eq_getElem hi]; rfl
   rw [hg] at this
   cases h3 : !(inI (fN fs[i]) 0 255) || !(inI (fS fs[i]) 1 255) with
   | true => rw [h3] at this; exact absurd (show (9 : Int) = 0 from this) (by decide)
   | false =>
    rw [h3] at this
    simp only [_root_.cond_false] at this
    cases h4 : inI (fT fs[i]) 0 3 with
    | false => rw [h4] at this; exact absurd (show (7 : Int) = 0 from this) (by decide)
    | true =>
     simp only [Bool.or_eq_false_iff, Bool.not_eq_false'] at h3
     obtain ⟨a1, a2⟩ := h3
     unfold inI at a1 a2 h4
     have a1 := of_decide_eq_true a1
     have a2 := of_decide_eq_true a2
     have h4 := of_decide_eq_true h4
     unfold fN at a1; unfold fS at a2; unfold fT at h4
     exact ⟨a1, by omega, by omega⟩
def fldT (f : D) : List UInt8 := [32] ++ Lib.itoa (f.cell 0).toI ++ [58] ++ Lib.itoa (f.cell 1).toI ++ [58] ++ Lib.itoa (f.cell 2).toI
theorem fldT_len {f : D} (h : (0 ≤ (f.cell 0).toI ∧ (f.cell 0).toI ≤ 255) ∧ (0 ≤ (f.cell 1).toI ∧ (f.cell 1).toI ≤ 255) ∧ (0 ≤ (f.cell 2).toI ∧ (f.cell 2).toI ≤ 255)) : (fldT f).length ≤ 30 := by
 obtain ⟨_, _, l0, _⟩ := num_facts (n := (f.cell 0).toI) (by omega) (by omega)
 obtain ⟨_, _, l1, _⟩ := num_facts (n := (f.cell 1).toI) (by omega) (by omega)
 obtain ⟨_, _, l2, _⟩ := num_facts (n := (f.cell 2).toI) (by omega) (by omega)
 unfold fldT
 simp only [List.length_append, List.length_cons, List.length_nil]
 omega
theorem fldsT_len {fs : List D} (h : OkF fs) : (fs.flatMap fldT).length ≤ 900 := by
 have : ∀ l : List D, (∀ f ∈ l, (fldT f).length ≤ 30) → (l.flatMap fldT).length ≤ 30 * l.length := by
  intro l
  induction l with
  | nil => intro _; simp
  | cons f r ih =>
   intro hl
   rw [List.flatMap_cons, List.length_append]
   have := ih fun g hg => hl g (by simp [hg])
   have := hl f (by simp)
   rw [List.length_cons]; omega
 have := this fs fun f hf => fldT_len (h.f f hf)
 have := h.n
 omega
theorem dle {n : Nat} (h : n ≤ 1000000000000) : decide (n ≤ strMax) = true := decide_eq_true (by unfold strMax; omega)
theorem G23x0_eq {v : List UInt8} {b : Bool} {t : List UInt8} (h : t.length + v.length ≤ 1000000000000) : G23x0 N v b (bytesD t) = some ((v.length : Int), (v.isEmpty && b), bytesD (t ++ v)) := by
 unfold G23x0 F23x0
 rw [bytesD_len, decide_eq_true (by unfold room; omega), dle h, bytesD_app]; rfl
theorem flds9 {fs : List D} (hf : OkF fs) : ∀ (r : List D) (i m : Nat) (fl : Bool) (t : List UInt8), fs.drop i = r → i ≤ fs.length → t.length + 30 * r.length ≤ 900000000000 → r.length < m →
  ∃ fl', L9x0x54 N (R := Bool × LD) fs fs.length m (i : Int) fl (bytesD t) (fun p => some p) = some (fl', bytesD (t ++ r.flatMap fldT))
 | _, _, 0, _, _, _, _, _, hm => by omega
 | [], i, m + 1, fl, t, hd, hi, ht, _ => by
  have hl := congrArg List.length hd
  simp at hl
  have : ¬ (i : Int) < (fs.length : Int) := by omega
  simp only [L9x0x54, S9x0x54, decide_eq_false this, _root_.cond_false]
  exact ⟨fl, by simp⟩
 | f :: r, i, m + 1, fl, t, hd, hi, ht, hm => by
  obtain ⟨h1, h2, h3⟩ := at_dropD hd
  have hmem : f ∈ fs := List.mem_of_mem_drop (by rw [hd]; simp)
  have hrng := hf.f f hmem
  have hlen := fldT_len hrng
  obtain ⟨_, _, l0, i0⟩ := num_facts (n := (f.cell 0).toI) (by omega) (by omega)
  obtain ⟨_, _, l1, i1⟩ := num_facts (n := (f.cell 1).toI) (by omega) (by omega)
  obtain ⟨_, _, l2, i2⟩ := num_facts (n := (f.cell 2).toI) (by omega) (by omega)
  have hlt : (i : Int) < (fs.length : Int) := by omega
  have hin : inB (i : Int) fs.length = true := inB_of (by omega) (by omega)
  have hn := hf.n
  have hw2 : IntKind.wrap .i64 ((i : Int) + 1) = ((i + 1 : Nat) : Int) := wrapI (by omega) (by omega)
  simp (disch := omega) only [L9x0x54, S9x0x54, decide_eq_true hlt, _root_.cond_true, hin, Int.toNat_natCast, h2, i0, i1, i2, bnd_eq, List.length_append, List.length_cons, List.length_nil, dle, hw2]
  have e : ([32] ++ Lib.itoa (f.cell 0).toI ++ [58] ++ Lib.itoa (f.cell 1).toI ++ [58] ++ Lib.itoa (f.cell 2).toI : List UInt8) = fldT f := rfl
  rw [e, G23x0_eq (by simp at ht; omega)]
  simp only [Option.isSome_some, _root_.cond_true, getD_some]
  obtain ⟨fl', q⟩ := flds9 hf r (i + 1) m _ (t ++ fldT f) h3 (by omega) (by simp at ht; simp; omega) (by simp at hm; omega)
  exact ⟨fl', by rw [q]; simp⟩
end Go.Proofs.YthifhnmfecjjcaaGreatDoor

namespace Go.Proofs.YthifhnmfecjjcaaGreatDoor
open Go Go.AM
set_option maxRecDepth 100000
set_option maxHeartbeats 4000000
set_option linter.unusedVariables false
set_option linter.unusedSimpArgs false
variable {N : Nat}
def wordB (b : Bool) : List UInt8 := bif b then sBig else sLittle
def defT (slot : Int) (d : D) : List UInt8 := [100, 101, 102, 105, 110, 101, 32] ++ Lib.itoa slot ++ [32] ++ Lib.itoa (d.cell 1).toI ++ [32] ++ wordB (d.cell 0).toB
def textE (x : D) : List UInt8 :=
 bif (x.cell 0).toI == 1 then defT (x.cell 1).toI ((x.cell 3).items.getD 0 (.i 0)) ++ ((((x.cell 3).items.getD 0 (.i 0)).cell 2).items).flatMap fldT
 else bif (x.cell 0).toI == 2 then [100, 97, 116, 97, 32] ++ Lib.itoa (x.cell 1).toI ++ [32] ++ hexT (x.cell 4).items
 else [115, 104, 111, 114, 116, 32] ++ Lib.itoa (x.cell 1).toI ++ [32] ++ Lib.itoa (x.cell 2).toI ++ [32] ++ hexT (x.cell 4).items
def lineE (x : D) : List UInt8 := textE x ++ [10]
theorem OkE.off {x : D} (h : OkE x) : 0 ≤ (x.cell 2).toI ∧ (x.cell 2).toI ≤ 31 := by
 have := h.o
 cases hk : (x.cell 0).toI == 3 <;> rw [hk] at this <;> simp at this <;> omega
theorem defT_len {slot : Int} {d : D} (h1 : 0 ≤ slot ∧ slot ≤ 15) (h2 : 0 ≤ (d.cell 1).toI ∧ (d.cell 1).toI ≤ 65535) : (defT slot d).length ≤ 50 := by
 obtain ⟨_, _, l0, _⟩ := num_facts (n := slot) (by omega) (by omega)
 obtain ⟨_, _, l1, _⟩ := num_facts (n := (d.cell 1).toI) (by omega) (by omega)
 unfold defT wordB
 cases (d.cell 0).toB <;> simp only [_root_.cond_true, _root_.cond_false, List.length_append, List.length_cons, List.length_nil] <;> omega
theorem textE_len {x : D} (h : OkE x) : (textE x).length ≤ 250000 := by
 have hs := h.s
 have ho := h.off
 obtain ⟨_, _, l0, _⟩ := num_facts (n := (x.cell 1).toI) (by omega) (by omega)
 obtain ⟨_, _, l1, _⟩ := num_facts (n := (x.cell 2).toI) (by omega) (by omega)
 have hx := hexT_len (x.cell 4).items
 unfold textE
 cases hk : (x.cell 0).toI == 1 with
 | true =>
  obtain ⟨_, _, h3⟩ := h.d (eq_of_beq hk)
  obtain ⟨g1, g2⟩ := okF_of h3
  have := defT_len (d := (x.cell 3).items.getD 0 (.i 0)) hs g1
  have := fldsT_len g2
  simp only [_root_.cond_true, List.length_append]
  omega
 | false =>
  have hd := (h.n (by intro e; rw [e] at hk; cases hk)).2
  cases hk2 : (x.cell 0).toI == 2 <;> simp only [_root_.cond_true, _root_.cond_false, List.length_append, List.length_cons, List.length_nil] <;> omega
theorem word47 (b : Bool) : G9x0x47 N ((V22x0 N).getD 0 (.i 0)).toS b = some (wordB b) := by cases b <;> rfl
theorem ent9 (hN : maxLen < N) {x : D} (h : OkE x) (he : EntD x) (fl : Bool) {t : List UInt8} (ht : t.length ≤ 899999999000) :
  ∃ fl', G9x0x66038 N (x.cell 0).toI ((x.cell 0).toI == 1) (x.cell 1).toI (x.cell 2).toI (x.cell 3).items (x.cell 4).items fl (bytesD t) = some (.inl (fl', bytesD (t ++ textE x))) ∨
   G9x0x66038 N (x.cell 0).toI ((x.cell 0).toI == 1) (x.cell 1).toI (x.cell 2).toI (x.cell 3).items (x.cell 4).items fl (bytesD t) = some (.inr (.inl (fl', bytesD (t ++ textE x)))) ∨
   G9x0x66038 N (x.cell 0).toI ((x.cell 0).toI == 1) (x.cell 1).toI (x.cell 2).toI (x.cell 3).items (x.cell 4).items fl (bytesD t) = some (.inr (.inr (fl', bytesD (t ++ textE x)))) := by
 have hM : maxLen = 9223372036854775807 := rfl
 have hs := h.s
 have ho := h.off
 obtain ⟨_, _, l0, i0⟩ := num_facts (n := (x.cell 1).toI) (by omega) (by omega)
 obtain ⟨_, _, l1, i1⟩ := num_facts (n := (x.cell 2).toI) (by omega) (by omega)
 have hx := hexT_len (x.cell 4).items
 unfold G9x0x66038 F9x0x66038 textE
 cases hk : (x.cell 0).toI == 1 with
 | true =>
  obtain ⟨h1, h2, h3⟩ := h.d (eq_of_beq hk)
  obtain ⟨g1, g2⟩ := okF_of h3
  have hdl := defT_len (d := (x.cell 3).items.getD 0 (.i 0)) hs g1
  have hfl := fldsT_len g2
  have hfn := g2.n
  obtain ⟨_, _, l2, i2⟩ := num_facts (n := (((x.cell 3).items.getD 0 (.i 0)).cell 1).toI) (by omega) (by omega)
  have c0 : inB 0 (x.cell 3).items.length = true := inB_of (by omega) (by omega)
  have c1 : inB 0 (V22x0 N).length = true := rfl
  have lw : (wordB (((x.cell 3).items.getD 0 (.i 0)).cell 0).toB).length ≤ 6 := by cases (((x.cell 3).items.getD 0 (.i 0)).cell 0).toB <;> decide
  simp (disch := omega) only [_root_.cond_true, c0, bnd_eq, c1, word47, Option.isSome_some, getD_some, i0, i2, List.length_append, List.length_cons, List.length_nil, dle]
  have e : ([100, 101, 102, 105, 110, 101, 32] ++ Lib.itoa (x.cell 1).toI ++ [32] ++ Lib.itoa (((x.cell 3).items.getD 0 (.i 0)).cell 1).toI ++ [32] ++ wordB (((x.cell 3).items.getD 0 (.i 0)).cell 0).toB : List UInt8) = defT (x.cell 1).toI ((x.cell 3).items.getD 0 (.i 0)) := rfl
  rw [e, G23x0_eq (by omega)]
  simp only [Option.isSome_some, _root_.cond_true, getD_some]
  obtain ⟨fl', q⟩ := flds9 (N := N) g2 ((((x.cell 3).items.getD 0 (.i 0)).cell 2).items) 0 N ((defT (x.cell 1).toI ((x.cell 3).items.getD 0 (.i 0))).isEmpty && fl) (t ++ defT (x.cell 1).toI ((x.cell 3).items.getD 0 (.i 0))) rfl (by omega) (by rw [List.length_append]; omega) (by omega)
  have q : G9x0x54 N ((((x.cell 3).items.getD 0 (.i 0)).cell 2).items) (((((x.cell 3).items.getD 0 (.i 0)).cell 2).items).length : Int) 0 ((defT (x.cell 1).toI ((x.cell 3).items.getD 0 (.i 0))).isEmpty && fl) (bytesD (t ++ defT (x.cell 1).toI ((x.cell 3).items.getD 0 (.i 0)))) = some (fl', bytesD (t ++ defT (x.cell 1).toI ((x.cell 3).items.getD 0 (.i 0)) ++ ((((x.cell 3).items.getD 0 (.i 0)).cell 2).items).flatMap fldT)) := q
  rw [q]
  exact ⟨fl', .inl (by simp only [Option.isSome_some, _root_.cond_true, getD_some, List.append_assoc])⟩
 | false =>
  have hd := (h.n (by intro e; rw [e] at hk; cases hk)).2
  unfold G9x0x30071 F9x0x30071
  cases hk2 : (x.cell 0).toI == 2 with
  | true =>
   simp (disch := omega) only [_root_.cond_true, _root_.cond_false, bnd_eq, G24x0_eq hN hd he.y, Option.isSome_some, getD_some, i0, List.length_append, List.length_cons, List.length_nil, dle]
   rw [G23x0_eq (by simp only [List.length_append, List.length_cons, List.length_nil]; omega)]
   exact ⟨_, .inr (.inl rfl)⟩
  | false =>
   simp (disch := omega) only [_root_.cond_true, _root_.cond_false, bnd_eq, G24x0_eq hN hd he.y, Option.isSome_some, getD_some, i0, i1, List.length_append, List.length_cons, List.length_nil, dle]
   rw [G23x0_eq (by simp only [List.length_append, List.length_cons, List.length_nil]; omega)]
   exact ⟨_, .inr (.inr rfl)⟩
theorem G25x0_eq {t : List UInt8} (h : t.length ≤ 1000000000000) : G25x0 N 10 (bytesD t) = some (bytesD (t ++ [10])) := by
 unfold G25x0 F25x0
 rw [bytesD_len, decide_eq_true (by unfold room; omega), decide_eq_true (by unfold strMax; omega), bytesD_app]; rfl
theorem inlV_l {α β : Type} [Inhabited α] (x : α) : inlV (some (Sum.inl x : Sum α β)) = x := rfl
theorem inlB_r {α β : Type} (x : β) : inlB (some (Sum.inr x : Sum α β)) = false := rfl
theorem print9 (hN : maxLen < N) {es : List D} (hes : ∀ x ∈ es, EntD x) (hok : ∀ x ∈ es, OkE x) (hl : es.length ≤ 50000) : ∀ (r : List D) (i m : Nat) (fl : Bool) (t : List UInt8), es.drop i = r → i ≤ es.length → t.length + 300000 * r.length ≤ 900000000000 → r.length < m →
  L9x0x21 N (R := Bool × LD) es es.length m (i : Int) fl (bytesD t) (fun p => some p) = some (fl && r.isEmpty, bytesD (t ++ r.flatMap lineE))
 | _, _, 0, _, _, _, _, _, hm => by omega
 | [], i, m + 1, fl, t, hd, hi, ht, _ => by
  have hll := congrArg List.length hd
  simp at hll
  have : ¬ (i : Int) < (es.length : Int) := by omega
  simp only [L9x0x21, S9x0x21, decide_eq_false this, _root_.cond_false]
  simp
 | x :: r, i, m + 1, fl, t, hd, hi, ht, hm => by
  obtain ⟨h1, h2, h3⟩ := at_dropD hd
  have hmem : x ∈ es := List.mem_of_mem_drop (by rw [hd]; simp)
  have hlt : (i : Int) < (es.length : Int) := by omega
  have hin : inB (i : Int) es.length = true := inB_of (by omega) (by omega)
  have hw2 : IntKind.wrap .i64 ((i : Int) + 1) = ((i + 1 : Nat) : Int) := wrapI (by omega) (by omega)
  have htl := textE_len (hok x hmem)
  rw [List.length_cons] at ht
  have ih := print9 hN hes hok hl r (i + 1) m false (t ++ textE x ++ [10]) h3 (by omega) (by rw [List.length_append, List.length_append]; simp only [List.length_cons, List.length_nil]; omega) (by simp at hm; omega)
  have e : t ++ textE x ++ [10] ++ r.flatMap lineE = t ++ (x :: r).flatMap lineE := by simp [lineE]
  rw [e] at ih
  have ef : (fl && (x :: r).isEmpty) = (false && r.isEmpty) := by simp
  rw [ef, ← ih]
  have h25 := G25x0_eq (N := N) (t := t ++ textE x) (by rw [List.length_append]; omega)
  obtain ⟨fl', q | q | q⟩ := ent9 hN (hok x hmem) (hes x hmem) fl (t := t) (by omega)
  ·simp only [L9x0x21, S9x0x21, decide_eq_true hlt, _root_.cond_true, hin, Int.toNat_natCast, h2, q, bnd_eq, inlB_l, inlV_l, hw2]
   rw [h25]
   rfl
  ·simp only [L9x0x21, S9x0x21, decide_eq_true hlt, _root_.cond_true, hin, Int.toNat_natCast, h2, q, bnd_eq, inlB_r, inrQ_inr, _root_.cond_false, inlB_l, inlV_l, hw2]
   rw [h25]
   rfl
  ·simp only [L9x0x21, S9x0x21, decide_eq_true hlt, _root_.cond_true, hin, Int.toNat_natCast, h2, q, bnd_eq, inlB_r, inrQ_inr, _root_.cond_false, Option.isSome_some, getD_some, hw2]
   rw [h25]
   rfl
theorem flds28 {fs : List D} (hf : OkF fs) : ∀ (r : List D) (i m : Nat) (t : List UInt8), fs.drop i = r → i ≤ fs.length → t.length + 30 * r.length ≤ 900000000000 → r.length < m →
  L28x0x36 N (R := LB) fs fs.length m t (i : Int) (fun p => some p) = some (t ++ r.flatMap fldT)
 | _, _, 0, _, _, _, _, hm => by omega
 | [], i, m + 1, t, hd, hi, ht, _ => by
  have hl := congrArg List.length hd
  simp at hl
  have : ¬ (i : Int) < (fs.length : Int) := by omega
  simp only [L28x0x36, S28x0x36, decide_eq_false this, _root_.cond_false]
  simp
 | f :: r, i, m + 1, t, hd, hi, ht, hm => by
  obtain ⟨h1, h2, h3⟩ := at_dropD hd
  have hmem : f ∈ fs := List.mem_of_mem_drop (by rw [hd]; simp)
  have hrng := hf.f f hmem
  have hlen := fldT_len hrng
  obtain ⟨_, _, l0, i0⟩ := num_facts (n := (f.cell 0).toI) (by omega) (by omega)
  obtain ⟨_, _, l1, i1⟩ := num_facts (n := (f.cell 1).toI) (by omega) (by omega)
  obtain ⟨_, _, l2, i2⟩ := num_facts (n := (f.cell 2).toI) (by omega) (by omega)
  have hlt : (i : Int) < (fs.length : Int) := by omega
  have hin : inB (i : Int) fs.length = true := inB_of (by omega) (by omega)
  have hn := hf.n
  have hw2 : IntKind.wrap .i64 ((i : Int) + 1) = ((i + 1 : Nat) : Int) := wrapI (by omega) (by omega)
  rw [List.length_cons] at ht
  simp (disch := omega) only [L28x0x36, S28x0x36, decide_eq_true hlt, _root_.cond_true, hin, Int.toNat_natCast, h2, i0, i1, i2, bnd_eq, List.length_append, List.length_cons, List.length_nil, dle, hw2]
  have e : ([32] ++ Lib.itoa (f.cell 0).toI ++ [58] ++ Lib.itoa (f.cell 1).toI ++ [58] ++ Lib.itoa (f.cell 2).toI : List UInt8) = fldT f := rfl
  rw [e]
  have q := flds28 hf r (i + 1) m (t ++ fldT f) h3 (by omega) (by rw [List.length_append]; omega) (by simp at hm; omega)
  rw [q]
  simp
theorem G28x0_eq (hN : maxLen < N) {x : D} (h : OkE x) (he : EntD x) : G28x0 N (x.cell 0).toI (x.cell 1).toI (x.cell 2).toI (x.cell 3).items (x.cell 4).items = some (textE x) := by
 have hM : maxLen = 9223372036854775807 := rfl
 have hs := h.s
 have ho := h.off
 obtain ⟨_, _, l0, i0⟩ := num_facts (n := (x.cell 1).toI) (by omega) (by omega)
 obtain ⟨_, _, l1, i1⟩ := num_facts (n := (x.cell 2).toI) (by omega) (by omega)
 have hx := hexT_len (x.cell 4).items
 have hkr := h.k
 unfold G28x0 F28x0 textE
 cases hk : (x.cell 0).toI == 1 with
 | true =>
  obtain ⟨h1, h2, h3⟩ := h.d (eq_of_beq hk)
  obtain ⟨g1, g2⟩ := okF_of h3
  have hfn := g2.n
  have hdl := defT_len (d := (x.cell 3).items.getD 0 (.i 0)) hs g1
  obtain ⟨_, _, l2, i2⟩ := num_facts (n := (((x.cell 3).items.getD 0 (.i 0)).cell 1).toI) (by omega) (by omega)
  have c0 : inB 0 (x.cell 3).items.length = true := inB_of (by omega) (by omega)
  have k2 : ((x.cell 0).toI == 2) = false := by rw [eq_of_beq hk]; rfl
  have k3 : ((x.cell 0).toI == 3) = false := by rw [eq_of_beq hk]; rfl
  have hw : V28x0x29 N ([108, 105, 116, 116, 108, 101] : List UInt8) (((x.cell 3).items.getD 0 (.i 0)).cell 0).toB = wordB (((x.cell 3).items.getD 0 (.i 0)).cell 0).toB := by
   cases (((x.cell 3).items.getD 0 (.i 0)).cell 0).toB <;> rfl
  have lw : (wordB (((x.cell 3).items.getD 0 (.i 0)).cell 0).toB).length ≤ 6 := by cases (((x.cell 3).items.getD 0 (.i 0)).cell 0).toB <;> decide
  simp (disch := omega) only [k2, k3, _root_.cond_true, _root_.cond_false, c0, hw, bnd_eq, Option.isSome_some, getD_some, i0, i2, List.length_append, List.length_cons, List.length_nil, dle]
  have e : ([100, 101, 102, 105, 110, 101, 32] ++ Lib.itoa (x.cell 1).toI ++ [32] ++ Lib.itoa (((x.cell 3).items.getD 0 (.i 0)).cell 1).toI ++ [32] ++ wordB (((x.cell 3).items.getD 0 (.i 0)).cell 0).toB : List UInt8) = defT (x.cell 1).toI ((x.cell 3).items.getD 0 (.i 0)) := rfl
  rw [e]
  have q := flds28 (N := N) g2 ((((x.cell 3).items.getD 0 (.i 0)).cell 2).items) 0 N (defT (x.cell 1).toI ((x.cell 3).items.getD 0 (.i 0))) rfl (by omega) (by omega) (by omega)
  have q : G28x0x36 N ((((x.cell 3).items.getD 0 (.i 0)).cell 2).items) (((((x.cell 3).items.getD 0 (.i 0)).cell 2).items).length : Int) (defT (x.cell 1).toI ((x.cell 3).items.getD 0 (.i 0))) 0 = _ := q
  rw [q]
  rfl
 | false =>
  have hd := (h.n (by intro e; rw [e] at hk; cases hk)).2
  cases hk2 : (x.cell 0).toI == 2 with
  | true =>
   simp (disch := omega) only [_root_.cond_true, _root_.cond_false, bnd_eq, G56x0_eq hN hd he.y, Option.isSome_some, getD_some, i0, List.length_append, List.length_cons, List.length_nil, dle]
  | false =>
   have k3 : ((x.cell 0).toI == 3) = true := by
    rw [beq_iff_eq]
    have a1 := ne_of_beq_false hk
    have a2 := ne_of_beq_false hk2
    omega
   simp (disch := omega) only [k3, _root_.cond_true, _root_.cond_false, bnd_eq, G56x0_eq hN hd he.y, Option.isSome_some, getD_some, i0, i1, List.length_append, List.length_cons, List.length_nil, dle]
theorem print10 (hN : maxLen < N) {es : List D} (hes : ∀ x ∈ es, EntD x) (hok : ∀ x ∈ es, OkE x) (hl : es.length ≤ 50000) : ∀ (r : List D) (i m : Nat) (fl : Bool) (t : List UInt8), es.drop i = r → i ≤ es.length → t.length + 300000 * r.length ≤ 900000000000 → r.length < m →
  L10x0x18 N (R := Bool × LD) es es.length m (i : Int) fl (bytesD t) (fun p => some p) = some (fl && r.isEmpty, bytesD (t ++ r.flatMap lineE))
 | _, _, 0, _, _, _, _, _, hm => by omega
 | [], i, m + 1, fl, t, hd, hi, ht, _ => by
  have hll := congrArg List.length hd
  simp at hll
  have : ¬ (i : Int) < (es.length : Int) := by omega
  simp only [L10x0x18, S10x0x18, decide_eq_false this, _root_.cond_false]
  simp
 | x :: r, i, m + 1, fl, t, hd, hi, ht, hm => by
  obtain ⟨h1, h2, h3⟩ := at_dropD hd
  have hmem : x ∈ es := List.mem_of_mem_drop (by rw [hd]; simp)
  have hlt : (i : Int) < (es.length : Int) := by omega
  have hin : inB (i : Int) es.length = true := inB_of (by omega) (by omega)
  have hw2 : IntKind.wrap .i64 ((i : Int) + 1) = ((i + 1 : Nat) : Int) := wrapI (by omega) (by omega)
  have htl := textE_len (hok x hmem)
  rw [List.length_cons] at ht
  have ih := print10 hN hes hok hl r (i + 1) m false (t ++ textE x ++ [10]) h3 (by omega) (by rw [List.length_append, List.length_append]; simp only [List.length_cons, List.length_nil]; omega) (by simp at hm; omega)
  have e : t ++ textE x ++ [10] ++ r.flatMap lineE = t ++ (x :: r).flatMap lineE := by simp [lineE]
  rw [e] at ih
  have ef : (fl && (x :: r).isEmpty) = (false && r.isEmpty) := by simp
  rw [ef, ← ih]
  have r1 : (decide (((bytesD t).length + (textE x).length) * 1 ≤ room) && decide ((bytesD t).length + (textE x).length ≤ strMax)) = true := by
   rw [bytesD_len, decide_eq_true (by unfold room; omega), decide_eq_true (by unfold strMax; omega)]; rfl
  have r2 : (decide (((bytesD t ++ bytesD (textE x)).length + 1) * 1 ≤ room) && decide ((bytesD t ++ bytesD (textE x)).length + 1 ≤ strMax)) = true := by
   rw [List.length_append, bytesD_len, bytesD_len, decide_eq_true (by unfold room; omega), decide_eq_true (by unfold strMax; omega)]; rfl
  simp only [L10x0x18, S10x0x18, decide_eq_true hlt, _root_.cond_true, hin, Int.toNat_natCast, h2, G28x0_eq hN (hok x hmem) (hes x hmem), bnd_eq, Option.isSome_some, getD_some, hw2, r1, r2]
  have e2 : (bytesD t ++ bytesD (textE x) ++ [D.i 10]) = bytesD (t ++ textE x ++ [10]) := by rw [bytesD_app, bytesD_app]; rfl
  rw [e2]
end Go.Proofs.YthifhnmfecjjcaaGreatDoor

namespace Go.Proofs.YthifhnmfecjjcaaGreatDoor
open Go Go.AM
set_option maxRecDepth 100000
set_option maxHeartbeats 4000000
set_option linter.unusedVariables false
set_option linter.unusedSimpArgs false
variable {N : Nat}
structure Typed (x : D) : Prop where
 b : ∀ d ∈ (x.cell 4).items, ∃ n, d = .i n
 f : ∀ e ∈ (x.cell 3).items, ∀ f ∈ (e.cell 2).items, ∃ a b c, f = .a [.i a, .i b, .i c]
theorem digs {n : Int} (h0 : 0 ≤ n) (h1 : n < 1000000000) : ∀ c ∈ Lib.itoa n, isDig c = true := by
 obtain ⟨h, _⟩ := num_facts h0 h1
 unfold rnB wholeL at h
 simp only [Bool.and_eq_true] at h
 exact List.all_eq_true.1 h.1.1.1
theorem dig_no {c k : UInt8} (h : isDig c = true) (hk : isDig k = false) : c ≠ k := fun e => by rw [e, hk] at h; cases h
theorem itoa_no {n : Int} (h0 : 0 ≤ n) (h1 : n < 1000000000) {k : UInt8} (hk : isDig k = false) : k ∉ Lib.itoa n := fun hm => dig_no (digs h0 h1 k hm) hk rfl
theorem dgX_all : ∀ k : Nat, k < 16 → (dgX (k : Int) ≠ 32 ∧ dgX (k : Int) ≠ 10) ∧ hexI (dgX (k : Int)) = k := by decide
theorem dgX_ok {k : Int} (h0 : 0 ≤ k) (h1 : k < 16) : (dgX k ≠ 32 ∧ dgX k ≠ 10) ∧ hexI (dgX k) = k := by
 have := dgX_all k.toNat (by omega)
 rw [show ((k.toNat : Nat) : Int) = k by omega] at this
 exact this
theorem hexF_no {l : List D} (hb : BytesOk l) : ∀ c ∈ hexF l, c ≠ 32 ∧ c ≠ 10 := by
 intro c hc
 unfold hexF at hc
 obtain ⟨d, hd, hc⟩ := List.mem_flatMap.1 hc
 obtain ⟨b0, b1⟩ := hb d hd
 have e1 := (dgX_ok (k := d.toI / 16) (by omega) (by omega)).1
 have e2 := (dgX_ok (k := d.toI % 16) (by omega) (by omega)).1
 simp only [List.mem_cons, List.not_mem_nil, or_false] at hc
 rcases hc with rfl | rfl
 ·exact e1
 ·exact e2
theorem hexT_no {l : List D} (hb : BytesOk l) : ∀ c ∈ hexT l, c ≠ 32 ∧ c ≠ 10 := by
 unfold hexT
 cases decide (l.length = 0) with
 | true =>
  intro c hc
  have hc : c ∈ [45] := hc
  rw [List.mem_singleton] at hc
  subst hc
  decide
 | false => exact hexF_no hb
theorem hexP_F {l : List D} (hb : BytesOk l) (ht : ∀ d ∈ l, ∃ n, d = .i n) : hexP (hexF l) = some l := by
 induction l with
 | nil => rfl
 | cons d r ih =>
  obtain ⟨b0, b1⟩ := hb d (by simp)
  obtain ⟨n, rfl⟩ := ht d (by simp)
  have b0 : 0 ≤ n := b0
  have b1 : n ≤ 255 := b1
  have e1 := (dgX_ok (k := n / 16) (by omega) (by omega)).2
  have e2 := (dgX_ok (k := n % 16) (by omega) (by omega)).2
  have hh : hexF (.i n :: r) = dgX (n / 16) :: dgX (n % 16) :: hexF r := rfl
  rw [hh]
  unfold hexP
  rw [e1, e2, decide_eq_false (by omega), decide_eq_false (by omega), ih (fun x hx => hb x (by simp [hx])) (fun x hx => ht x (by simp [hx]))]
  have : hx (dgX (n / 16)) (dgX (n % 16)) = .i n := by
   unfold hx
   rw [e1, e2]
   congr 1
   rw [wrapI (x := 16 * (n / 16)) (by omega) (by omega), wrapI (x := 16 * (n / 16) + n % 16) (by omega) (by omega), IntKind.wrap_u8]
   omega
  simp [this]
theorem hexF_45 {l : List D} (h : l.length ≠ 0) : (hexF l == ([45] : List UInt8)) = false := by
 rw [beq_eq_false_iff_ne]
 intro e
 have := congrArg List.length e
 rw [hexF_len] at this
 simp at this
 omega
theorem hexD_T {l : List D} (hb : BytesOk l) (ht : ∀ d ∈ l, ∃ n, d = .i n) : hexD (hexT l) = some (l.isEmpty, l) := by
 unfold hexT
 by_cases h : l.length = 0
 ·have := List.eq_nil_of_length_eq_zero h
  subst this; rfl
 ·rw [decide_eq_false h]
  simp only [_root_.cond_false]
  unfold hexD
  rw [hexF_45 h, hexF_len, decide_eq_true (by omega), decide_eq_true (by omega), hexP_F hb ht]
  rfl
def fldS (f : D) : List UInt8 := Lib.itoa (f.cell 0).toI ++ 58 :: (Lib.itoa (f.cell 1).toI ++ 58 :: Lib.itoa (f.cell 2).toI)
theorem fldT_S (f : D) : fldT f = 32 :: fldS f := by simp [fldT, fldS]
theorem fldS_no {f : D} (h : (0 ≤ (f.cell 0).toI ∧ (f.cell 0).toI ≤ 255) ∧ (0 ≤ (f.cell 1).toI ∧ (f.cell 1).toI ≤ 255) ∧ (0 ≤ (f.cell 2).toI ∧ (f.cell 2).toI ≤ 255)) {k : UInt8} (hk : isDig k = false) (hk2 : k ≠ 58) : k ∉ fldS f := by
 intro hm
 unfold fldS at hm
 simp only [List.mem_append, List.mem_cons] at hm
 rcases hm with hm | hm | hm | hm | hm
 ·exact itoa_no (by omega) (by omega) hk hm
 ·exact hk2 hm
 ·exact itoa_no (by omega) (by omega) hk hm
 ·exact hk2 hm
 ·exact itoa_no (by omega) (by omega) hk hm
theorem fldS_ok {f : D} (h : (0 ≤ (f.cell 0).toI ∧ (f.cell 0).toI ≤ 255) ∧ (0 ≤ (f.cell 1).toI ∧ (f.cell 1).toI ≤ 255) ∧ (0 ≤ (f.cell 2).toI ∧ (f.cell 2).toI ≤ 255)) : okW (fldS f) = true ∧ fldW (fldS f) = .a [.i (f.cell 0).toI, .i (f.cell 1).toI, .i (f.cell 2).toI] := by
 obtain ⟨a1, a2, _, _⟩ := num_facts (n := (f.cell 0).toI) (by omega) (by omega)
 obtain ⟨b1, b2, _, _⟩ := num_facts (n := (f.cell 1).toI) (by omega) (by omega)
 obtain ⟨c1, c2, _, _⟩ := num_facts (n := (f.cell 2).toI) (by omega) (by omega)
 have hs : splitL 58 (fldS f) = [Lib.itoa (f.cell 0).toI, Lib.itoa (f.cell 1).toI, Lib.itoa (f.cell 2).toI] := by
  unfold fldS
  rw [splitL_at (itoa_no (by omega) (by omega) (by decide)), splitL_at (itoa_no (by omega) (by omega) (by decide)), splitL_none (itoa_no (by omega) (by omega) (by decide))]
 unfold okW fldW
 rw [hs]
 simp only [a1, b1, c1, a2, b2, c2]
 refine ⟨?_, ?_⟩ <;> first | trivial | rfl
theorem split_flds : ∀ (fs : List D) (w : List UInt8), (∀ f ∈ fs, 32 ∉ fldS f) → 32 ∉ w → splitL 32 (w ++ fs.flatMap fldT) = w :: fs.map fldS
 | [], w, _, hw => by simp [splitL_none hw]
 | f :: r, w, hf, hw => by
  have := split_flds r (fldS f) (fun g hg => hf g (by simp [hg])) (hf f (by simp))
  rw [List.flatMap_cons, fldT_S, List.cons_append, splitL_at hw, this]
  rfl
theorem word_no (b : Bool) : 32 ∉ wordB b ∧ 10 ∉ wordB b := by cases b <;> decide
theorem word_ok (b : Bool) : (wordB b == sLittle || wordB b == sBig) = true ∧ (wordB b == sBig) = b := by cases b <;> decide
theorem entP_text {x : D} (h : OkE x) (he : EntD x) (ht : Typed x) : ∃ e, entP (textE x) = some e ∧ entD e = norm x := by
 have hs := h.s
 have ho := h.off
 obtain ⟨s1, s2, _, _⟩ := num_facts (n := (x.cell 1).toI) (by omega) (by omega)
 obtain ⟨o1, o2, _, _⟩ := num_facts (n := (x.cell 2).toI) (by omega) (by omega)
 have sno : (32 : UInt8) ∉ Lib.itoa (x.cell 1).toI := itoa_no (by omega) (by omega) (by decide)
 have ono : (32 : UInt8) ∉ Lib.itoa (x.cell 2).toI := itoa_no (by omega) (by omega) (by decide)
 have hxo : (32 : UInt8) ∉ hexT (x.cell 4).items := fun hm => (hexT_no he.y 32 hm).1 rfl
 have hD := hexD_T he.y ht.b
 unfold entP textE
 cases hk : (x.cell 0).toI == 1 with
 | true =>
  have hk1 := eq_of_beq hk
  obtain ⟨h1, h2, h3⟩ := h.d hk1
  obtain ⟨g1, g2⟩ := okF_of h3
  match hds : (x.cell 3).items, h1 with
  | [d], _ =>
   rw [hds] at h3 g1 g2
   have g1 : 0 ≤ (d.cell 1).toI ∧ (d.cell 1).toI ≤ 65535 := g1
   have g2 : OkF (d.cell 2).items := g2
   obtain ⟨n1, n2, _, _⟩ := num_facts (n := (d.cell 1).toI) (by omega) (by omega)
   have gno : (32 : UInt8) ∉ Lib.itoa (d.cell 1).toI := itoa_no (by omega) (by omega) (by decide)
   have hsp : splitL 32 (defT (x.cell 1).toI d ++ (d.cell 2).items.flatMap fldT) = sDefine :: Lib.itoa (x.cell 1).toI :: Lib.itoa (d.cell 1).toI :: wordB (d.cell 0).toB :: (d.cell 2).items.map fldS := by
    have e : defT (x.cell 1).toI d ++ (d.cell 2).items.flatMap fldT = sDefine ++ 32 :: (Lib.itoa (x.cell 1).toI ++ 32 :: (Lib.itoa (d.cell 1).toI ++ 32 :: (wordB (d.cell 0).toB ++ (d.cell 2).items.flatMap fldT))) := by simp [defT]
    rw [e, splitL_at (by decide), splitL_at sno, splitL_at gno, split_flds _ _ (fun f hf => fldS_no (g2.f f hf) (by decide) (by decide)) (word_no _).1]
   show ∃ e, entW (splitL 32 (defT (x.cell 1).toI d ++ (d.cell 2).items.flatMap fldT)) = some e ∧ _
   rw [hsp, entW_cons]
   have r0 : (Lib.itoa (d.cell 1).toI :: wordB (d.cell 0).toB :: (d.cell 2).items.map fldS).getD 0 [] = Lib.itoa (d.cell 1).toI := rfl
   have r1 : (Lib.itoa (d.cell 1).toI :: wordB (d.cell 0).toB :: (d.cell 2).items.map fldS).getD 1 [] = wordB (d.cell 0).toB := rfl
   have r2 : (Lib.itoa (d.cell 1).toI :: wordB (d.cell 0).toB :: (d.cell 2).items.map fldS).drop 2 = (d.cell 2).items.map fldS := rfl
   have k1 : (sDefine == sData) = false := by decide
   have k2 : (sDefine == sShort) = false := by decide
   have k3 : (sDefine == sDefine) = true := by decide
   have k4 : decide (2 ≤ (Lib.itoa (d.cell 1).toI :: wordB (d.cell 0).toB :: (d.cell 2).items.map fldS).length) = true := decide_eq_true (by simp)
   have hall : ((d.cell 2).items.map fldS).all okW = true := by
    rw [List.all_eq_true]
    intro w hw
    obtain ⟨f, hf, rfl⟩ := List.mem_map.1 hw
    exact (fldS_ok (g2.f f hf)).1
   have hmap : ((d.cell 2).items.map fldS).map fldW = (d.cell 2).items := by
    rw [List.map_map]
    have : ∀ f ∈ (d.cell 2).items, (fldW ∘ fldS) f = f := fun f hf => by
     obtain ⟨a, b, c, rfl⟩ := ht.f d (by rw [hds]; simp) f hf
     exact (fldS_ok (g2.f _ hf)).2
    rw [List.map_congr_left this, List.map_id']
   have hemp : ((d.cell 2).items.map fldS).isEmpty = (d.cell 2).items.isEmpty := by cases (d.cell 2).items <;> rfl
   rw [k1, k2, k3, k4, r0, r1, r2, s1, n1, (word_ok _).1, (word_ok _).2, hall, s2, n2, hmap, hemp]
   refine ⟨_, rfl, ?_⟩
   unfold norm
   rw [hk, hk1, hds, h2]
   have o0 : (x.cell 2).toI = 0 := by
    have := h.o
    rw [hk1] at this
    simp at this
    omega
   rw [o0]
   rfl
 | false =>
  have hne : (x.cell 0).toI ≠ 1 := by intro e; rw [e] at hk; cases hk
  obtain ⟨d1, d2⟩ := h.n hne
  cases hk2 : (x.cell 0).toI == 2 with
  | true =>
   have hk2' := eq_of_beq hk2
   have hsp : splitL 32 ([100, 97, 116, 97, 32] ++ Lib.itoa (x.cell 1).toI ++ [32] ++ hexT (x.cell 4).items) = [sData, Lib.itoa (x.cell 1).toI, hexT (x.cell 4).items] := by
    have e : ([100, 97, 116, 97, 32] ++ Lib.itoa (x.cell 1).toI ++ [32] ++ hexT (x.cell 4).items : List UInt8) = sData ++ 32 :: (Lib.itoa (x.cell 1).toI ++ 32 :: hexT (x.cell 4).items) := by simp
    rw [e, splitL_at (by decide), splitL_at sno, splitL_none hxo]
   simp only [_root_.cond_false, _root_.cond_true, hsp]
   rw [entW_cons, s1]
   have r0 : ([hexT (x.cell 4).items] : List (List UInt8)).getD 0 [] = hexT (x.cell 4).items := rfl
   rw [r0, hD, s2]
   refine ⟨_, rfl, ?_⟩
   unfold norm
   have o0 : (x.cell 2).toI = 0 := by
    have := h.o
    rw [hk2'] at this
    simp at this
    omega
   rw [hk, hk2', d1, o0]
   rfl
  | false =>
   have hk3 : (x.cell 0).toI = 3 := by
    have a2 := ne_of_beq_false hk2
    have := h.k
    omega
   have hsp : splitL 32 ([115, 104, 111, 114, 116, 32] ++ Lib.itoa (x.cell 1).toI ++ [32] ++ Lib.itoa (x.cell 2).toI ++ [32] ++ hexT (x.cell 4).items) = [sShort, Lib.itoa (x.cell 1).toI, Lib.itoa (x.cell 2).toI, hexT (x.cell 4).items] := by
    have e : ([115, 104, 111, 114, 116, 32] ++ Lib.itoa (x.cell 1).toI ++ [32] ++ Lib.itoa (x.cell 2).toI ++ [32] ++ hexT (x.cell 4).items : List UInt8) = sShort ++ 32 :: (Lib.itoa (x.cell 1).toI ++ 32 :: (Lib.itoa (x.cell 2).toI ++ 32 :: hexT (x.cell 4).items)) := by simp
    rw [e, splitL_at (by decide), splitL_at sno, splitL_at ono, splitL_none hxo]
   simp only [_root_.cond_false, hsp]
   rw [entW_cons, s1]
   have r0 : ([Lib.itoa (x.cell 2).toI, hexT (x.cell 4).items] : List (List UInt8)).getD 0 [] = Lib.itoa (x.cell 2).toI := rfl
   have r1 : ([Lib.itoa (x.cell 2).toI, hexT (x.cell 4).items] : List (List UInt8)).getD 1 [] = hexT (x.cell 4).items := rfl
   rw [r0, r1, hD, o1, s2, o2]
   refine ⟨_, rfl, ?_⟩
   unfold norm
   rw [hk, hk3, d1]
   rfl
theorem textE_no {x : D} (h : OkE x) (he : EntD x) : (10 : UInt8) ∉ textE x := by
 have hs := h.s
 have ho := h.off
 have sno : (10 : UInt8) ∉ Lib.itoa (x.cell 1).toI := itoa_no (by omega) (by omega) (by decide)
 have ono : (10 : UInt8) ∉ Lib.itoa (x.cell 2).toI := itoa_no (by omega) (by omega) (by decide)
 have hxo : (10 : UInt8) ∉ hexT (x.cell 4).items := fun hm => (hexT_no he.y 10 hm).2 rfl
 intro hm
 unfold textE at hm
 cases hk : (x.cell 0).toI == 1 with
 | true =>
  rw [hk] at hm
  obtain ⟨h1, h2, h3⟩ := h.d (eq_of_beq hk)
  obtain ⟨g1, g2⟩ := okF_of h3
  have gno : (10 : UInt8) ∉ Lib.itoa (((x.cell 3).items.getD 0 (.i 0)).cell 1).toI := itoa_no (by omega) (by omega) (by decide)
  have wno := (word_no (((x.cell 3).items.getD 0 (.i 0)).cell 0).toB).2
  simp only [_root_.cond_true, defT, List.mem_append, List.mem_cons, List.not_mem_nil, or_false, List.mem_flatMap] at hm
  rcases hm with (((((hm | hm) | hm) | hm) | hm) | hm) | ⟨f, hf, hm⟩
  ·revert hm; decide
  ·exact sno hm
  ·revert hm; decide
  ·exact gno hm
  ·revert hm; decide
  ·exact wno hm
  ·rw [fldT_S] at hm
   rcases List.mem_cons.1 hm with hm | hm
   ·revert hm; decide
   ·exact fldS_no (g2.f f hf) (by decide) (by decide) hm
 | false =>
  rw [hk] at hm
  cases hk2 : (x.cell 0).toI == 2 with
  | true =>
   rw [hk2] at hm
   simp only [_root_.cond_true, _root_.cond_false, List.mem_append, List.mem_cons, List.not_mem_nil, or_false] at hm
   rcases hm with ((hm | hm) | hm) | hm
   ·revert hm; decide
   ·exact sno hm
   ·revert hm; decide
   ·exact hxo hm
  | false =>
   rw [hk2] at hm
   simp only [_root_.cond_true, _root_.cond_false, List.mem_append, List.mem_cons, List.not_mem_nil, or_false] at hm
   rcases hm with ((((hm | hm) | hm) | hm) | hm) | hm
   ·revert hm; decide
   ·exact sno hm
   ·revert hm; decide
   ·exact ono hm
   ·revert hm; decide
   ·exact hxo hm
theorem cutL_at : ∀ {a b : List UInt8}, 10 ∉ a → cutL (a ++ 10 :: b) = (a, some b)
 | [], b, _ => rfl
 | x :: a, b, h => by
  have hx : (x == 10) = false := by
   rw [beq_eq_false_iff_ne]
   intro e
   exact h (by simp [e])
  have := cutL_at (a := a) (b := b) (fun hm => h (List.mem_cons_of_mem x hm))
  rw [List.cons_append]
  unfold cutL
  rw [hx, this]
  rfl
theorem parse_text (hN : maxLen < N) : ∀ (r : List D) (m i : Nat) (fl : Bool) (acc : List D), (r.flatMap lineE).length < m → i + (r.flatMap lineE).length ≤ 10000000 → acc.length ≤ i → (∀ x ∈ r, OkE x ∧ EntD x ∧ Typed x) →
  L5x0x15 N (R := Sum (Int × Bool × LD) (Bool × LD)) m (r.flatMap lineE) (i : Int) fl acc (fun p => some (.inl p)) (fun p => some (.inr p)) = some (.inr (fl && r.isEmpty, acc ++ r.map norm))
 | _, 0, _, _, _, hm, _, _, _ => by omega
 | [], m + 1, i, fl, acc, hm, hi, ha, hr => by
  have : (([] : List D).flatMap lineE) = [] := rfl
  rw [this]
  simp only [L5x0x15, S5x0x15]
  simp
 | x :: r, m + 1, i, fl, acc, hm, hi, ha, hr => by
  obtain ⟨h1, h2, h3⟩ := hr x (by simp)
  have hw : (x :: r).flatMap lineE = textE x ++ 10 :: r.flatMap lineE := by simp [lineE]
  rw [hw] at hm hi ⊢
  have hcut := cutL_at (b := r.flatMap lineE) (textE_no h1 h2)
  rw [List.length_append, List.length_cons] at hm hi
  obtain ⟨e, p1, p2⟩ := entP_text h1 h2 h3
  obtain ⟨p, g1, k1, k2⟩ := G12x0_eq hN (textE x) (by omega)
  have hp := k2 e p1
  have hne : ((textE x ++ 10 :: r.flatMap lineE) == ([] : List UInt8)) = false := by
   rw [beq_eq_false_iff_ne]
   intro e
   have := congrArg List.length e
   simp at this
  have hroom := roomOk (n := acc.length) (k := 72) (by omega) (by omega)
  have hw2 : IntKind.wrap .i64 ((i : Int) + 1) = ((i + 1 : Nat) : Int) := wrapI (by omega) (by omega)
  rw [p1] at k1
  simp only [L5x0x15, S5x0x15, hne, Bool.not_false, _root_.cond_true, G11x0_eq (N := N) (textE x ++ 10 :: r.flatMap lineE) (by rw [List.length_append, List.length_cons]; omega), hcut, bnd_eq, Option.isSome_some, getD_some, g1, k1, Bool.not_true, _root_.cond_false, hroom, hw2]
  have ep : (D.a [.i p.1, .i p.2.1, .i p.2.2.1, .l p.2.2.2.1 p.2.2.2.2.1, .l p.2.2.2.2.2.1 p.2.2.2.2.2.2.1]) = norm x := by rw [← p2, ← hp]; rfl
  rw [ep, parse_text hN r m (i + 1) false (acc ++ [norm x]) (by omega) (by omega) (by simp; omega) (fun y hy => hr y (by simp [hy]))]
  simp
theorem norm_nth {xs : List D} {w : Int} (h : inB w xs.length = true) : (xs.map norm).getD w.toNat (.i 0) = norm (xs.getD w.toNat (.i 0)) := by
 unfold inB at h
 simp at h
 exact getD_map xs h.1 h.2
theorem normD_nth {xs : List D} {w : Int} (h : inB w xs.length = true) : (xs.map normD).getD w.toNat (.i 0) = normD (xs.getD w.toNat (.i 0)) := by
 unfold inB at h
 simp at h
 have hi : w.toNat < xs.length := by omega
 rw [List.getD_eq_getElem?_getD, List.getElem?_map, List.getD_eq_getElem?_getD, List.getElem?_eq_getElem hi]
 rfl
theorem same_defs {ds : List D} (hN : maxLen < N) (hl : ds.length ≤ maxLen) (hf : ∀ x ∈ ds, (x.cell 2).items.length ≤ maxLen) : G42x0 N (ds.map normD) ds = some true := by
 have k : G42x0x12 N ds (ds.map normD) ds.length 0 = some (.inr ()) := by
  refine refl_ind (S := fun w kr => S42x0x12 N ds (ds.map normD) ds.length w kr _ _) (L := fun m w => L42x0x12 N ds (ds.map normD) ds.length m w _ _) (fun m w => rfl) hl (fun kr => by simp [S42x0x12]) (fun w kr h1 h2 h3 => ?_) hN
  unfold S42x0x12
  rw [List.length_map, h1, h2, normD_nth h2]
  show (bif true then bif true then bif true then bnd (G43x0 N ((ds.getD w.toNat (.i 0)).cell 0).toB ((ds.getD w.toNat (.i 0)).cell 1).toI ((ds.getD w.toNat (.i 0)).cell 2).items _ _ _) _ else _ else _ else _) = _
  rw [G104_refl hN (hf _ h3)]
  simp [bnd_eq]
 unfold G42x0 F42x0
 rw [List.length_map, len_self, k]; rfl
theorem same_norm {es : List D} (hN : maxLen < N) (hl : es.length ≤ maxLen) (he : ∀ x ∈ es, EntD x) : G7x0 N (es.map norm) es = some true := by
 have k : G16x0x12 N es (es.map norm) es.length 0 = some (.inr ()) := by
  refine refl_ind (S := fun w kr => S16x0x12 N es (es.map norm) es.length w kr _ _) (L := fun m w => L16x0x12 N es (es.map norm) es.length m w _ _) (fun m w => rfl) hl (fun kr => by simp [S16x0x12]) (fun w kr h1 h2 h3 => ?_) hN
  obtain ⟨c0, c1, c2, c3, c4⟩ := norm_cells (es.getD w.toNat (.i 0))
  have e3 := he _ h3
  have hs : G17x0 N ((es.getD w.toNat (.i 0)).cell 0).toI ((es.getD w.toNat (.i 0)).cell 1).toI ((es.getD w.toNat (.i 0)).cell 2).toI ((es.getD w.toNat (.i 0)).cell 3 |>.items |>.map normD) ((es.getD w.toNat (.i 0)).cell 4).items ((es.getD w.toNat (.i 0)).cell 0).toI ((es.getD w.toNat (.i 0)).cell 1).toI ((es.getD w.toNat (.i 0)).cell 2).toI ((es.getD w.toNat (.i 0)).cell 3).items ((es.getD w.toNat (.i 0)).cell 4).items = some true := by
   unfold G17x0 F17x0 G17x0x4 F17x0x4
   rw [same_defs hN e3.d e3.f, G25_refl hN e3.b]
   simp [bnd_eq]
  unfold S16x0x12
  rw [List.length_map, h1, h2, norm_nth h2, c0, c1, c2, c3, c4]
  simp only [_root_.cond_true, hs]
  simp [bnd_eq]
 unfold G7x0 F7x0 G16x0 F16x0
 rw [List.length_map, len_self, k]; rfl
theorem lines_bytes (l : List UInt8) (b : Bool) (h : l = [] → b = true) : (isBytes (bytesD l) && (!(bytesD l).isEmpty || b)) = true := by
 rw [isBytes_bytesD]
 cases l with
 | nil => rw [h rfl]; rfl
 | cons c r => rfl
theorem law4 (hN : maxLen < N) (ht : G8x0 N = some true) {es : List D} (hl : es.length ≤ maxLen) (he : ∀ x ∈ es, EntD x) (hty : ∀ x ∈ es, Typed x) : G4x0 N es = some true := by
 have hM : maxLen = 9223372036854775807 := rfl
 obtain ⟨c, c1, c2, c3⟩ := check_norm hN he
 by_cases hc : c = 0
 ·subst hc
  obtain ⟨n1, n2, n3⟩ := c3 rfl
  have q9 := print9 hN he n3 n2 es 0 N true [] rfl (by omega) (by simp; omega) (by omega)
  have q10 := print10 hN he n3 n2 es 0 N true [] rfl (by omega) (by simp; omega) (by omega)
  have q9 : G9x0x21 N es (es.length : Int) 0 true [] = some (es.isEmpty, bytesD (es.flatMap lineE)) := q9
  have q10 : G10x0x18 N es (es.length : Int) 0 true [] = some (es.isEmpty, bytesD (es.flatMap lineE)) := q10
  have hemp : es.flatMap lineE = [] → es.isEmpty = true := by
   intro h0
   cases es with
   | nil => rfl
   | cons x r =>
    have := congrArg List.length h0
    simp [lineE] at this
  have p9 : G9x0 N es = (bif decide (((es.flatMap lineE).length : Int) > 10000000) then some ([], 3) else some (es.flatMap lineE, 0)) := by
   unfold G9x0 F9x0
   rw [c1]
   simp only [bnd_eq, Option.isSome_some, _root_.cond_true, getD_some, show ((0 : Int) != 0) = false from rfl, _root_.cond_false, q9, V26x0, F26x0, bytesD_len, strD_bytesD]
   rw [lines_bytes _ _ hemp]
   rfl
  have p10 : G10x0 N es = (bif decide (((es.flatMap lineE).length : Int) > 10000000) then some ([], 3) else some (es.flatMap lineE, 0)) := by
   unfold G10x0 F10x0
   rw [c2]
   simp only [bnd_eq, Option.isSome_some, _root_.cond_true, getD_some, show ((0 : Int) != 0) = false from rfl, _root_.cond_false, q10, bytesD_len, strD_bytesD]
  unfold G4x0 F4x0
  rw [p9, p10]
  cases hbig : decide (((es.flatMap lineE).length : Int) > 10000000) with
  | true =>
   simp only [_root_.cond_true, bnd_eq, Option.isSome_some, getD_some, beq_self_eq_true, Bool.not_true, _root_.cond_false, bne_self_eq_false, show ((3 : Int) != 0) = true from rfl, ht]
  | false =>
   have hlen := of_decide_eq_false hbig
   have hp := parse_text hN es N 0 true [] (by omega) (by omega) (by simp) (fun x hx => ⟨n3 x hx, he x hx, hty x hx⟩)
   have hp : G5x0x15 N (es.flatMap lineE) 0 true [] = some (.inr (es.isEmpty, es.map norm)) := hp
   have g5 : G5x0 N (es.flatMap lineE) = some (es.isEmpty, es.map norm, 0, 0) := by
    unfold G5x0 F5x0
    rw [hbig, hp]
    simp only [_root_.cond_false, bnd_eq, inlB_inr, inrQ_inr, Option.isSome_some, _root_.cond_true, getD_some, n1, show ((0 : Int) != 0) = false from rfl]
   simp only [_root_.cond_false, bnd_eq, Option.isSome_some, _root_.cond_true, getD_some, beq_self_eq_true, Bool.not_true, bne_self_eq_false, show ((0 : Int) != 0) = false from rfl, g5]
   unfold G4x0x25 F4x0x25
   rw [same_norm hN hl he, ht]
   simp [bnd_eq]
 ·have hc' : (c != 0) = true := by simpa using hc
  have p9 : G9x0 N es = some ([], c) := by
   unfold G9x0 F9x0
   rw [c1]
   simp only [bnd_eq, Option.isSome_some, _root_.cond_true, getD_some, hc']
  have p10 : G10x0 N es = some ([], c) := by
   unfold G10x0 F10x0
   rw [c2]
   simp only [bnd_eq, Option.isSome_some, _root_.cond_true, getD_some, hc']
  unfold G4x0 F4x0
  rw [p9, p10]
  simp only [bnd_eq, Option.isSome_some, _root_.cond_true, getD_some, beq_self_eq_true, Bool.not_true, _root_.cond_false, bne_self_eq_false, hc', ht]
end Go.Proofs.YthifhnmfecjjcaaGreatDoor

namespace Go.Proofs.YthifhnmfecjjcaaGreatDoor
open Go Go.AM
set_option maxRecDepth 100000
set_option maxHeartbeats 4000000
theorem told_ok : G8x0 18446744073709551616 = some true := by kernel_rfl
theorem kinds24 : kinds Tryz.prog 24 = [.sl 39] := by kernel_rfl
theorem kinds39 : kinds Tryz.prog 39 = [.int .i64, .int .i64, .int .i64, .sl 64, .sl 5] := by kernel_rfl
theorem kinds64 : kinds Tryz.prog 64 = [.bool, .int .i64, .sl 71] := by kernel_rfl
theorem kinds71 : kinds Tryz.prog 71 = [.int .i64, .int .i64, .int .i64] := by kernel_rfl
theorem kinds5' : kinds Tryz.prog 5 = [.int .u8] := by kernel_rfl
theorem int1 {m : Nat} {k : IntKind} {d : D} (h : TyK Tryz.prog m (.int k) d) : ∃ i, d = .i i ∧ (Lit.int k i).wf = true := by
 cases m with
 | zero => exact h.elim
 | succ m => obtain ⟨i, h1, h2⟩ := h; exact ⟨i, h1, h2⟩
theorem bool1 {m : Nat} {d : D} (h : TyK Tryz.prog m .bool d) : ∃ i, d = .b i := by
 cases m with
 | zero => exact h.elim
 | succ m => exact ty_bool h
theorem sl1 {m : Nat} {e : TypeId} {d : D} (h : TyK Tryz.prog m (.sl e) d) : ∃ nl xs, d = .l nl xs ∧ xs.length ≤ maxLen ∧ (nl = true → xs = []) ∧ ∀ x ∈ xs, ∃ m', TyEl Tryz.prog (TyK Tryz.prog m') e x := by
 cases m with
 | zero => exact h.elim
 | succ m => obtain ⟨nl, xs, h1, h0, h2, h3⟩ := h; exact ⟨nl, xs, h1, h2, h0, fun x hx => ⟨m, h3 x hx⟩⟩
def FldT (f : D) : Prop := ∃ a b c, f = .a [.i a, .i b, .i c]
def DefT (d : D) : Prop := ∃ big g nl fs, d = .a [.b big, .i g, .l nl fs] ∧ fs.length ≤ maxLen ∧ ∀ f ∈ fs, FldT f
def ByteT (x : D) : Prop := ∃ n, x = .i n ∧ 0 ≤ n ∧ n ≤ 255
def EntT (x : D) : Prop := ∃ kind slot off dn ds bn data, x = .a [.i kind, .i slot, .i off, .l dn ds, .l bn data] ∧ ds.length ≤ maxLen ∧ data.length ≤ maxLen ∧ (∀ d ∈ ds, DefT d) ∧ ∀ y ∈ data, ByteT y
theorem byteT_ok {m : Nat} {x : D} (h : TyEl Tryz.prog (TyK Tryz.prog m) 5 x) : ByteT x := by
 unfold TyEl at h
 have : isAggB Tryz.prog 5 = false := by kernel_rfl
 rw [if_neg (by rw [this]; simp), kinds5'] at h
 obtain ⟨k, hk, h⟩ := h
 simp only [List.cons.injEq, and_true] at hk
 subst hk
 obtain ⟨i, rfl, hl⟩ := int1 h
 simp only [Lit.wf, Bool.and_eq_true, decide_eq_true_eq] at hl
 exact ⟨i, rfl, hl⟩
theorem fldT_ok {m : Nat} {x : D} (h : TyEl Tryz.prog (TyK Tryz.prog m) 71 x) : FldT x := by
 unfold TyEl at h
 have : isAggB Tryz.prog 71 = true := by kernel_rfl
 rw [if_pos this, kinds71] at h
 obtain ⟨cs, rfl, hc⟩ := h
 obtain ⟨_, _, rfl, h0, hc⟩ := all2_cons hc
 obtain ⟨_, _, rfl, h1, hc⟩ := all2_cons hc
 obtain ⟨_, _, rfl, h2, hc⟩ := all2_cons hc
 obtain rfl := all2_nil hc
 obtain ⟨a, rfl, _⟩ := int1 h0
 obtain ⟨b, rfl, _⟩ := int1 h1
 obtain ⟨c, rfl, _⟩ := int1 h2
 exact ⟨a, b, c, rfl⟩
theorem defT_ok {m : Nat} {x : D} (h : TyEl Tryz.prog (TyK Tryz.prog m) 64 x) : DefT x := by
 unfold TyEl at h
 have : isAggB Tryz.prog 64 = true := by kernel_rfl
 rw [if_pos this, kinds64] at h
 obtain ⟨cs, rfl, hc⟩ := h
 obtain ⟨_, _, rfl, h0, hc⟩ := all2_cons hc
 obtain ⟨_, _, rfl, h1, hc⟩ := all2_cons hc
 obtain ⟨_, _, rfl, h2, hc⟩ := all2_cons hc
 obtain rfl := all2_nil hc
 obtain ⟨b, rfl⟩ := bool1 h0
 obtain ⟨g, rfl, _⟩ := int1 h1
 obtain ⟨nl, fs, rfl, n1, _, n3⟩ := sl1 h2
 exact ⟨b, g, nl, fs, rfl, n1, fun f hf => let ⟨m', q⟩ := n3 f hf; fldT_ok q⟩
theorem entT_ok {m : Nat} {x : D} (h : TyEl Tryz.prog (TyK Tryz.prog m) 39 x) : EntT x := by
 unfold TyEl at h
 have : isAggB Tryz.prog 39 = true := by kernel_rfl
 rw [if_pos this, kinds39] at h
 obtain ⟨cs, rfl, hc⟩ := h
 obtain ⟨_, _, rfl, h0, hc⟩ := all2_cons hc
 obtain ⟨_, _, rfl, h1, hc⟩ := all2_cons hc
 obtain ⟨_, _, rfl, h2, hc⟩ := all2_cons hc
 obtain ⟨_, _, rfl, h3, hc⟩ := all2_cons hc
 obtain ⟨_, _, rfl, h4, hc⟩ := all2_cons hc
 obtain rfl := all2_nil hc
 obtain ⟨a, rfl, _⟩ := int1 h0
 obtain ⟨b, rfl, _⟩ := int1 h1
 obtain ⟨c, rfl, _⟩ := int1 h2
 obtain ⟨dn, ds, rfl, n1, _, n3⟩ := sl1 h3
 obtain ⟨bn, data, rfl, m1, _, m3⟩ := sl1 h4
 exact ⟨a, b, c, dn, ds, bn, data, rfl, n1, m1, fun d hd => let ⟨m', q⟩ := n3 d hd; defT_ok q, fun y hy => let ⟨m', q⟩ := m3 y hy; byteT_ok q⟩
theorem EntT.entD {x : D} (h : EntT x) : EntD x := by
 obtain ⟨a, b, c, dn, ds, bn, data, rfl, n2, m2, n3, m3⟩ := h
 refine ⟨n2, m2, fun d hd => ?_, fun y hy => ?_⟩
 ·obtain ⟨big, g, nl, fs, rfl, hl, _⟩ := n3 d hd
  exact hl
 ·obtain ⟨n, rfl, h0, h1⟩ := m3 y hy
  exact ⟨h0, h1⟩
theorem EntT.typed {x : D} (h : EntT x) : Typed x := by
 obtain ⟨a, b, c, dn, ds, bn, data, rfl, n2, m2, n3, m3⟩ := h
 refine ⟨fun y hy => ?_, fun d hd f hf => ?_⟩
 ·obtain ⟨n, rfl, _⟩ := m3 y hy
  exact ⟨n, rfl⟩
 ·obtain ⟨big, g, nl, fs, rfl, hl, hfs⟩ := n3 d hd
  exact hfs f hf
theorem arg24 {m : Nat} {ds : List D} (h : ArgOk Tryz.prog m 24 ds) : ∃ nl es, ds = [.l nl es] ∧ (nl = true → es = []) ∧ es.length ≤ maxLen ∧ ∀ x ∈ es, EntT x := by
 unfold ArgOk at h
 rw [kinds24] at h
 obtain ⟨_, _, rfl, h0, h⟩ := all2_cons h
 obtain rfl := all2_nil h
 obtain ⟨nl, es, rfl, h1, h2, h3⟩ := sl1 h0
 exact ⟨nl, es, rfl, h2, h1, fun x hx => let ⟨m', q⟩ := h3 x hx; entT_ok q⟩
theorem callLaw (m : Nat) (dss : List (List D)) (h : All2 (ArgOk Tryz.prog m) Tryz.f4.params.toList dss) : CallOk Tryz.prog 4 (argVs Tryz.prog Tryz.f4.params.toList dss) [] ([.c (.b true)], []) := by
 have hp : Tryz.f4.params.toList = [24] := by kernel_rfl
 rw [hp] at h ⊢
 match dss, h with
 | [d0], ⟨h0, _⟩ =>
  obtain ⟨nl, es, rfl, hnl, hl, hx⟩ := arg24 h0
  refine ok4x0 18446744073709551616 _ _ (A4x0 18446744073709551616 [.b nl, .l es]) (by kernel_rfl) _ ?_
  have e : A4x0 18446744073709551616 [.b nl, .l es] = bnd (G4x0 18446744073709551616 es) fun q => [(q.isSome, ([.c (.b (q.getD default))], []))] := by kernel_rfl
  rw [e, law4 (by decide) told_ok hl (fun x hx' => (hx x hx').entD) (fun x hx' => (hx x hx').typed)]
  rfl
theorem Tryz.own : ownKnob Tryz.prog.godebug = none := by kernel_rfl
theorem Tryz.laidOut : laidOutB Tryz.prog = true := by kernel_rfl
theorem bulkOk {H : Type} : BulkOk (Rows.uptoBulk : DataW H → Nat) Rows.uptoBulkAll := by
 refine ⟨fun l => ?_, fun l => ?_, ?_, fun e s => ?_, fun p => ?_, ?_, fun d r => ?_⟩
 ·cases l <;> simp [Rows.uptoBulk]
 ·simp [Rows.uptoBulk]
 ·simp [Rows.uptoBulk]
 ·simp only [Rows.uptoBulk]; omega
 ·simp [Rows.uptoBulk]
 ·simp [Rows.uptoBulkAll]
 ·simp [Rows.uptoBulkAll]
theorem g0 : Tryz.prog.globalNamed "internal/bytealg.MaxLen" = some 0 := by kernel_rfl
theorem g1 : Tryz.prog.globalNamed "internal/strconv.uint64pow10" = some 1 := by kernel_rfl
theorem g2 : Tryz.prog.globalNamed "strconv.ErrSyntax" = some 2 := by kernel_rfl
theorem g3 : Tryz.prog.globalNamed "strconv.ErrRange" = some 3 := by kernel_rfl
theorem giW {W : World} (hs : W.ShapedOpen Tryz.prog) (hl : laidMetH Tryz.prog Rows.recordTextsComeBackRow.laid W) {M : Stab} (hM : ∀ b o, ¬ M b o) : GI Tryz.prog M W := by
 have hl : laidMet Tryz.prog Rows.recordTextsComeBackRow.laid W := hl
 refine gi_of g0 g1 g2 g3 ?_ ?_ ?_ ?_ hM
 ·exact gat_int (t := 3) (zero := #[.int .i64 0]) hs (of_decide_eq_true (by kernel_rfl)) (by kernel_rfl) rfl (by kernel_rfl) (by kernel_rfl) (by kernel_rfl)
 ·obtain ⟨ps, hv, _⟩ := hl
  obtain ⟨g, t, cs, fuel, p, q1, q2, q3, q4⟩ := laid_get (x := ("internal/strconv.uint64pow10", Rows.laid_internal_strconv_uint64pow10)) hv (by simp [Rows.recordTextsComeBackRow])
  obtain rfl := Option.some.inj ((show (Tryz.prog.globals[1]?).map (·.type) = some 165 by kernel_rfl).symm.trans (by rw [Option.some.inj (g1.symm.trans q1)]; exact q2))
  have hcs := Lib.cells_of_tab (k := .u64) (zs := (List.range 20).map fun i => ((10 ^ i : Nat) : Int)) (n := 20) (e := 146) (t := 165) (by kernel_rfl) (by kernel_rfl) (by kernel_rfl) (by kernel_rfl) (show DataW.trod _ _ _ _ _ _ fuel 165 cs.toList = some (Lib.tabData .u64 ((List.range 20).map fun i => ((10 ^ i : Nat) : Int)), p) from q4)
  refine gat_tab (k := .u64) (zs := (List.range 20).map fun i => ((10 ^ i : Nat) : Int)) g1 (show W.var? Tryz.prog _ = _ by rw [q3, ← hcs]) (by simp) fun i p z h1 h2 => ?_
  rw [List.getElem?_map] at h1 h2
  obtain ⟨j, j1, rfl⟩ := Option.map_eq_some_iff.1 h1
  rw [j1] at h2
  simp only [Option.map_some, Option.some.injEq] at h2
  subst h2
  rfl
 ·exact gat_err (t := 67) hl (show ("strconv.ErrSyntax", Rows.laid_strconv_ErrSyntax) ∈ Rows.recordTextsComeBackRow.laid by simp [Rows.recordTextsComeBackRow]) g2 (by kernel_rfl) (by kernel_rfl)
 ·exact gat_err (t := 67) hl (show ("strconv.ErrRange", Rows.laid_strconv_ErrRange) ∈ Rows.recordTextsComeBackRow.laid by simp [Rows.recordTextsComeBackRow]) g3 (by kernel_rfl) (by kernel_rfl)
abbrev synS : ByteArray := { data := #[105, 110, 118, 97, 108, 105, 100, 32, 115, 121, 110, 116, 97, 120] }
abbrev rngS : ByteArray := { data := #[118, 97, 108, 117, 101, 32, 111, 117, 116, 32, 111, 102, 32, 114, 97, 110, 103, 101] }
noncomputable def low : Nat := (World.holding Tryz.prog default ⟨#[], #[], []⟩).heap.size
def tabOf {H : Type} : DataW H → Array Value
 | .agg l => (l.map fun | .lit (.int k n) => Value.int k n | _ => undef).toArray
 | _ => #[]
def setG (h : Array Obj) (g : Nat) (vs : Array Value) : Array Obj := h.modify g fun
 | .cells _ t fr => .cells vs t fr
 | o => o
def flatOf {H : Type} : DataW H → Array Value
 | .agg l => (l.flatMap fun | .agg r => r.map (fun | .lit (.int k n) => Value.int k n | _ => undef) | _ => []).toArray
 | _ => #[]
noncomputable def laidWorld (os : Os) : World :=
 let w0 := World.holding Tryz.prog os ⟨#[.cells #[.string synS] 183, .cells #[.string rngS] 183], #[], []⟩
 { w0 with heap := setG (setG (setG (setG (setG (setG (setG w0.heap 1 (tabOf (H := Unit) Rows.laid_internal_strconv_uint64pow10)) 2 #[.iface 181 (.pointer (some ⟨low, 0, none⟩))]) 3 #[.iface 181 (.pointer (some ⟨low + 1, 0, none⟩))])
   6 (tabOf (H := Unit) Rows.laid_math_bits_deBruijn32tab)) 7 (tabOf (H := Unit) Rows.laid_math_bits_deBruijn64tab)) 4 (tabOf Rows.laid_unicode_utf8_first)) 5 (flatOf (H := Unit) Rows.laid_unicode_utf8_acceptRanges) }
def arg0 : Value := .agg #[.slice none 0 0]
def dat0 {H : Type} : DataW H := .agg [.nil]
theorem laid_met (os : Os) : laidMet Tryz.prog Rows.recordTextsComeBackRow.laid ((laidWorld os).forCall (fun _ _ => 0) ⟨#[], #[arg0], []⟩).memory :=
 laidMet_of_run' 8 (by kernel_rfl) (by kernel_rfl)
theorem reads (os : Os) {H : Type} (enc : TypeId × Value → H) : ∃ places, DataW.whole enc Tryz.prog ((laidWorld os).forCall (fun _ _ => 0) ⟨#[], #[arg0], []⟩).memory Tryz.f4.params.toList Rows.recordTextsComeBackSpec.vars false #[arg0].toList 8 = some ([dat0], [], places) :=
 ⟨[], by kernel_rfl⟩
theorem lifted (os : Os) (started : os.Started) (H : Type) (enc : TypeId × Value → H) (F : Stop.Interp) :
  ReturnsInHanded {} Tryz.checked os 4 .any ((OpenSpec.ofChange Rows.recordTextsComeBackSpec).preRow enc Tryz.prog Tryz.f4 Rows.recordTextsComeBackRow.domain false Rows.recordTextsComeBackRow.laid) (((OpenSpec.ofChange Rows.recordTextsComeBackSpec).at F).post enc Tryz.prog Tryz.f4 false true false false) := by
 obtain ⟨places, hx⟩ := reads os enc
 refine returnsInHanded_of_row (C := Tryz.checked) (s := OpenSpec.ofChange Rows.recordTextsComeBackSpec) Tryz.own started (by kernel_rfl) Tryz.func4
  (witness_row_at (enc := enc) (C := Tryz.checked) false (laidWorld os) #[arg0] rfl (by kernel_rfl) (by kernel_rfl) (by kernel_rfl)
   (OpenSpec.preRow_of_cond 8 hx (by kernel_rfl) (fun k hk => by cases hk) (by kernel_rfl) (laid_met os))) ?_
 intro W base args ds gs before hval hW _ _ _ hL hsh _
 exact law_callR (tb := 4) bulkOk [39, 64, 71, 5] (by kernel_rfl) Tryz.laidOut rfl (by kernel_rfl) (by kernel_rfl) (by kernel_rfl) (fun l hl => by
  rw [show Tryz.f4.params.size = 1 by kernel_rfl] at hl
  match l, hl with
  | [_], _ => rfl) (fun m dss h _ => callLaw m dss h) (fun hM => giW hsh hL hM) hval hW
end Go.Proofs.YthifhnmfecjjcaaGreatDoor

