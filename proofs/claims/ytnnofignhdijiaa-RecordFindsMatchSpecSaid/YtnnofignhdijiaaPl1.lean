/- Proved: for every file and number, record.Find and Widen answer what the reference package answers, and Widen leaves no short data and no other times (RecordFindsMatchSpec returns true and leaves its arguments as they were). Conditions: none beyond those of the given statement. -/
import Derived.Test.YtnnofignhdijiaaRPp2
import Derived.KernelRfl
import Derived.Test.YtnnofignhdijiaaRows
set_option linter.all false
set_option maxRecDepth 100000
/-! Plain laws: record.Check, record.Same and their references (the numbers are those of the seat of chapter 2). -/
namespace Go.Proofs.Ytnnofignhdijiaa
open Go Go.AM
set_option maxRecDepth 100000
set_option maxHeartbeats 4000000
variable {N : Nat}
def inI (n a b : Int) : Bool := decide (a ≤ n ∧ n ≤ b)
theorem V52x0_eq (n a b : Int) : V52x0 N n a b = inI n a b := by
 unfold V52x0 F52x0 inI
 rw [Bool.eq_iff_iff]; simp
theorem V57x0_eq (n a b : Int) : V57x0 N n a b = !inI n a b := by
 unfold V57x0 F57x0 inI
 rw [Bool.eq_iff_iff]; simp <;> omega
/-! ### The first fault -/
def firstE (e : Int → Int) : Int → List D → Int
 | _, [] => 0
 | w, _ :: r => bif e w != 0 then e w else firstE e (w + 1) r
def wayE (n : Int) : Sum Int Unit := bif n != 0 then .inl n else .inr ()
theorem wayE_cons {e : Int → Int} {w : Int} {x : D} {l : List D} : wayE (firstE e w (x :: l)) = bif e w != 0 then .inl (e w) else wayE (firstE e (w + 1) l) := by
 simp only [firstE]
 cases h : e w != 0 with
 | true => simp only [_root_.cond_true, wayE, h]
 | false => rfl
section
variable {xs : List D} {w : Int}
end
theorem way_do {α : Type} (n : Int) (k0 : Int → α) (k1 : α) (z : α) : (bif inlB (some (wayE n)) then k0 (inlV (some (wayE n))) else bif (inrQ (some (wayE n))).isSome then k1 else z) = bif n != 0 then k0 n else k1 := by
 unfold wayE
 cases n != 0 <;> rfl
section
variable {name : List UInt8} {sport start : Int} {smps laps tags : List D}
end
end Go.Proofs.Ytnnofignhdijiaa

/-! Plain laws: record.Same and its reference. -/
namespace Go.Proofs.Ytnnofignhdijiaa
open Go Go.AM
set_option maxRecDepth 100000
set_option maxHeartbeats 4000000
variable {N : Nat}
def zipAll (f : D → D → Bool) : List D → List D → Bool
 | x :: r, y :: s => f x y && zipAll f r s
 | _, _ => true
theorem zip_ind {xs ys : List D} (f : D → D → Bool) {S : Int → (Int → Option (Sum Unit Unit)) → Option (Sum Unit Unit)} {L : Nat → Int → Option (Sum Unit Unit)} (hL : ∀ m a, L (m + 1) a = S a (L m)) (hlen : xs.length ≤ maxLen) (hxy : xs.length = ys.length)
  (hend : ∀ kr, S xs.length kr = some (.inr ()))
  (hstep : ∀ (w : Int) (kr : Int → Option (Sum Unit Unit)), decide (w < xs.length) = true → inB w xs.length = true → inB w ys.length = true → S w kr = bif f (xs.getD w.toNat (.i 0)) (ys.getD w.toNat (.i 0)) then kr (IntKind.wrap .i64 (w + 1)) else some (.inl ()))
  (hN : maxLen < N) : L N 0 = some (bif zipAll f xs ys then .inr () else .inl ()) := by
 refine (for_ind (.i 0 : D) hL (fun w l => some (bif zipAll f l (ys.drop w.toNat) then .inr () else .inl ())) hlen ?_ ?_ hN).trans (by simp)
 ·intro kr; rw [hend]; simp [zipAll]
 ·intro w kr h0 h1 hw hi hk
  have h2 : w < ys.length := by omega
  rw [hstep w kr (decide_eq_true h1) hi (inB_of h0 (by omega)), hw, hk, drop_at (.i 0) (xs := ys) h0 h2]
  simp only [zipAll]
  cases f (xs.getD w.toNat (.i 0)) (ys.getD w.toNat (.i 0)) <;> rfl
section
variable {xs ys : List D}
end
section
variable {n n' : List UInt8} {sp st sp' st' : Int} {s l t s' l' t' : List D}
end
end Go.Proofs.Ytnnofignhdijiaa

/-! Plain laws: definitions of files, their slots (record.checkDef, slotOf; the references' defFault, timeOf, fieldsOf, sizeOf). -/
namespace Go.Proofs.Ytnnofignhdijiaa
open Go Go.AM
set_option maxRecDepth 100000
set_option maxHeartbeats 4000000
variable {N : Nat}
theorem loop_indE {A X : Type} {S : A → (A → X) → X} {L : Nat → A → X} (hL : ∀ m a, L (m + 1) a = S a (L m)) (P : A → X → Prop) (Inv : A → Prop) (μ : A → Nat)
  (h : ∀ a kr, Inv a → (∀ a', Inv a' → μ a' < μ a → P a' (kr a')) → P a (S a kr)) : ∀ (m : Nat) (a : A), Inv a → μ a < m → P a (L m a) := by
 intro m
 induction m with
 | zero => intro a _ h; omega
 | succ m ih => intro a ha hm; rw [hL]; exact h a (L m) ha fun a' h1 h2 => ih a' h1 (by omega)
def fN (f : D) : Int := (f.cell 0).toI
def fS (f : D) : Int := (f.cell 1).toI
def fT (f : D) : Int := (f.cell 2).toI
def isT (f : D) : Bool := (fN f == 253) && (fT f == 0) && (fS f == 4)
def hasN (n : Int) (l : List D) : Bool := l.any fun f => fN f == n
def fldE (fs : List D) (w : Int) : Int :=
 bif !(inI (fN (fs.getD w.toNat (.i 0))) 0 255) || !(inI (fS (fs.getD w.toNat (.i 0))) 1 255) then 9 else bif !inI (fT (fs.getD w.toNat (.i 0))) 0 3 then 7 else
 bif decide (fT (fs.getD w.toNat (.i 0)) ≤ 1) && (fS (fs.getD w.toNat (.i 0)) != 1) && (fS (fs.getD w.toNat (.i 0)) != 2) && (fS (fs.getD w.toNat (.i 0)) != 4) then 2 else
 bif hasN (fN (fs.getD w.toNat (.i 0))) (fs.take w.toNat) then 5 else 0
def defE (g : Int) (fs : List D) : Int := bif !inI g 0 65535 then 9 else bif decide ((fs.length : Int) > 30) then 3 else firstE (fldE fs) 0 fs
theorem G146x0_eq (hN : maxLen < N) {xs : List D} {n : Int} (hs : xs.length ≤ maxLen) : ∃ i : Int, G146x0 N xs n = some i ∧ decide (i ≥ 0) = hasN n xs := by
 have h : G146x0x6 N xs xs.length n 0 = some (match xs.findIdx? fun d => fN d == n with | some j => .inl (j : Int) | none => .inr ()) := by
  unfold G146x0x6
  refine (for_ind (.i 0 : D) (S := fun w kr => S146x0x6 N xs xs.length n w kr _ _) (L := fun m w => L146x0x6 N xs xs.length n m w _ _) (fun m w => rfl) (fun w l => some (match l.findIdx? fun d => fN d == n with | some j => .inl (w + (j : Int)) | none => .inr ())) hs ?_ ?_ hN).trans (by simp)
  ·intro kr; simp [S146x0x6]
  ·intro w kr h0 h1 hw hi hk
   simp only [S146x0x6, V142x0, F142x0, decide_eq_true h1, _root_.cond_true, hi, bnd_eq, hw, hk, List.findIdx?_cons]
   show (bif (fN (xs.getD w.toNat (.i 0)) == n) then _ else _) = _
   cases fN (xs.getD w.toNat (.i 0)) == n with
   | true => simp
   | false =>
    simp only [_root_.cond_false, Bool.false_eq_true, if_false]
    cases (xs.drop (w + 1).toNat).findIdx? fun d => fN d == n with
    | none => rfl
    | some j => simp; omega
 unfold G146x0 F146x0
 rw [h]
 have hl : hasN n xs = (xs.findIdx? fun d => fN d == n).isSome := by
  rw [List.findIdx?_isSome]; rfl
 rw [hl]
 cases xs.findIdx? fun d => fN d == n with
 | none => exact ⟨-1, rfl, rfl⟩
 | some j => exact ⟨j, rfl, by simp⟩
theorem G141x0_eq (hN : maxLen < N) {xs : List D} {n : Int} (hs : xs.length ≤ maxLen) : G141x0 N xs n = some (hasN n xs) := by
 obtain ⟨i, h1, h2⟩ := G146x0_eq hN (n := n) hs
 unfold G141x0 F141x0
 rw [h1]
 simp only [bnd_eq, Option.isSome_some, _root_.cond_true, getD_some, h2]
theorem G125x0x45_eq (hN : maxLen < N) {xs : List D} {n : Int} (hs : xs.length ≤ maxLen) : G125x0x45 N xs xs.length n 0 = some (bif hasN n xs then .inl () else .inr ()) := by
 unfold G125x0x45
 refine (for_ind (.i 0 : D) (S := fun w kr => S125x0x45 N xs xs.length n w kr _ _) (L := fun m w => L125x0x45 N xs xs.length n m w _ _) (fun m w => rfl) (fun _ l => some (bif hasN n l then .inl () else .inr ())) hs ?_ ?_ hN).trans rfl
 ·intro kr; simp [S125x0x45, hasN]
 ·intro w kr h0 h1 hw hi hk
  simp only [S125x0x45, decide_eq_true h1, _root_.cond_true, hi, hw, hk, hasN, List.any_cons]
  show (bif (fN (xs.getD w.toNat (.i 0)) == n) then _ else _) = _
  cases fN (xs.getD w.toNat (.i 0)) == n <;> rfl
section
variable {fs : List D} {w : Int}
theorem take_ok (h0 : 0 ≤ w) (h1 : w < fs.length) : (decide (0 ≤ w) && decide (w ≤ (fs.length : Int))) = true := by
 rw [decide_eq_true h0, decide_eq_true (by omega)]; rfl
theorem G122x0x18_eq (hN : maxLen < N) (hl : fs.length ≤ maxLen) : G122x0x18 N fs fs.length fs 0 = some (wayE (firstE (fldE fs) 0 fs)) := by
 unfold G122x0x18
 refine (for_ind (.i 0 : D) (S := fun w kr => S122x0x18 N fs fs.length fs w kr _ _) (L := fun m w => L122x0x18 N fs fs.length fs m w _ _) (fun m w => rfl) (fun w l => some (wayE (firstE (fldE fs) w l))) hl ?_ ?_ hN).trans rfl
 ·intro kr; simp [S122x0x18, firstE, wayE]
 ·intro w kr h0 h1 hw hi hk
  have hm := G141x0_eq hN (xs := fs.take w.toNat) (n := fN (fs.getD w.toNat (.i 0))) (by simp; omega)
  simp only [S122x0x18, decide_eq_true h1, _root_.cond_true, hi, bnd_eq, hw, hk, take_ok h0 h1, List.drop_zero, V122x0x28, F122x0x28, V52x0_eq, wayE_cons]
  rw [show (((fs.getD w.toNat (.i 0)).cell 0).toI) = fN (fs.getD w.toNat (.i 0)) from rfl, hm]
  unfold fldE
  generalize hasN (fN (fs.getD w.toNat (.i 0))) (fs.take w.toNat) = hh
  generalize fs.getD w.toNat (.i 0) = f
  rw [show ((f.cell 1).toI) = fS f from rfl, show ((f.cell 2).toI) = fT f from rfl]
  simp only [Option.isSome_some, getD_some, _root_.cond_true]
  cases inI (fN f) 0 255 <;> try rfl
  cases inI (fS f) 1 255 <;> try rfl
  cases h3 : inI (fT f) 0 3 <;> try rfl
  have e : (bif fT f == 0 then true else fT f == 1) = decide (fT f ≤ 1) := by
   unfold inI at h3
   rw [Bool.eq_iff_iff]; simp at h3 ⊢
   by_cases h : fT f = 0 <;> simp [h] <;> omega
  rw [e]
  cases decide (fT f ≤ 1) <;> cases (fS f != 1) <;> cases (fS f != 2) <;> cases (fS f != 4) <;> cases hh <;> rfl
theorem G125x0x18_eq (hN : maxLen < N) (hl : fs.length ≤ maxLen) : G125x0x18 N fs fs.length fs 0 = some (wayE (firstE (fldE fs) 0 fs)) := by
 unfold G125x0x18
 refine (for_ind (.i 0 : D) (S := fun w kr => S125x0x18 N fs fs.length fs w kr _ _) (L := fun m w => L125x0x18 N fs fs.length fs m w _ _) (fun m w => rfl) (fun w l => some (wayE (firstE (fldE fs) w l))) hl ?_ ?_ hN).trans rfl
 ·intro kr; simp [S125x0x18, firstE, wayE]
 ·intro w kr h0 h1 hw hi hk
  have hm := G125x0x45_eq hN (xs := fs.take w.toNat) (n := fN (fs.getD w.toNat (.i 0))) (by simp; omega)
  simp only [S125x0x18, decide_eq_true h1, _root_.cond_true, hi, bnd_eq, hw, hk, take_ok h0 h1, List.drop_zero, V125x0x25, F125x0x25, V57x0_eq, wayE_cons]
  rw [show (((fs.getD w.toNat (.i 0)).cell 0).toI) = fN (fs.getD w.toNat (.i 0)) from rfl, hm]
  unfold fldE
  generalize hasN (fN (fs.getD w.toNat (.i 0))) (fs.take w.toNat) = hh
  generalize fs.getD w.toNat (.i 0) = f
  rw [show ((f.cell 1).toI) = fS f from rfl, show ((f.cell 2).toI) = fT f from rfl]
  cases inI (fN f) 0 255 <;> cases inI (fS f) 1 255 <;> cases inI (fT f) 0 3 <;> try rfl
  cases decide (fT f ≤ 1) <;> cases (fS f != 1) <;> cases (fS f != 2) <;> cases (fS f != 4) <;> cases hh <;> rfl
theorem G122x0_eq (hN : maxLen < N) (g : Int) (hl : fs.length ≤ maxLen) : G122x0 N g fs = some (defE g fs) := by
 unfold G122x0 F122x0 defE
 simp only [bnd_eq, V52x0_eq, G122x0x18_eq hN hl, way_do]
 cases inI g 0 65535 <;> cases decide ((fs.length : Int) > 30) <;> try rfl
 cases h : firstE (fldE fs) 0 fs != 0 <;> first | rfl | (simp only [bne_eq_false_iff_eq] at h; simp [h])
theorem G125x0_eq (hN : maxLen < N) (g : Int) (hl : fs.length ≤ maxLen) : G125x0 N g fs = some (defE g fs) := by
 unfold G125x0 F125x0 defE
 simp only [bnd_eq, V57x0_eq, G125x0x18_eq hN hl, way_do]
 cases inI g 0 65535 <;> cases decide ((fs.length : Int) > 30) <;> try rfl
 cases h : firstE (fldE fs) 0 fs != 0 <;> first | rfl | (simp only [bne_eq_false_iff_eq] at h; simp [h])
end
/-! ### What a right definition is -/
structure FldsOk (fs : List D) : Prop where
 len : fs.length ≤ 255
 size : ∀ f ∈ fs, 0 ≤ fS f ∧ fS f ≤ 255
theorem firstE_zero {e : Int → Int} : ∀ {l : List D} {w : Int}, firstE e w l = 0 → ∀ i : Nat, i < l.length → e (w + i) = 0
 | [], w, _, i, hi => by simp at hi
 | x :: r, w, h, i, hi => by
  simp only [firstE] at h
  cases he : e w != 0 with
  | true =>
   rw [he] at h
   simp only [_root_.cond_true] at h
   rw [h] at he
   simp at he
  | false =>
   rw [he] at h
   cases i with
   | zero => simpa using he
   | succ i =>
    have := firstE_zero (l := r) (w := w + 1) h i (by simpa using hi)
    rw [show w + ((i + 1 : Nat) : Int) = w + 1 + (i : Int) by omega]
    exact this
theorem defE_ok {g : Int} {fs : List D} (h : defE g fs = 0) : FldsOk fs := by
 unfold defE at h
 cases h1 : inI g 0 65535 with
 | false => rw [h1] at h; exact absurd (show (9 : Int) = 0 from h) (by decide)
 | true =>
  rw [h1] at h
  cases h2 : decide ((fs.length : Int) > 30) with
  | true => rw [h2] at h; exact absurd (show (3 : Int) = 0 from h) (by decide)
  | false =>
   rw [h2] at h
   simp only [Bool.not_true, _root_.cond_false] at h
   refine ⟨by simp at h2; omega, fun f hf => ?_⟩
   obtain ⟨i, hi, rfl⟩ := List.getElem_of_mem hf
   have := firstE_zero h i hi
   rw [Int.zero_add] at this
   unfold fldE at this
   have hg : fs.getD ((i : Int)).toNat (.i 0) = fs[i] := by
    rw [List.getD_eq_getElem?_getD, Int.toNat_natCast, List.getElem?_eq_getElem hi]; rfl
   rw [hg] at this
   cases h3 : inI (fS fs[i]) 1 255 with
   | false =>
    rw [h3] at this
    cases inI (fN fs[i]) 0 255 <;> exact absurd (show (9 : Int) = 0 from by simpa using this) (by decide)
   | true => unfold inI at h3; simp at h3; omega
/-! ### Sizes, the time's place -/
def szL : List D → Int
 | [] => 0
 | f :: r => fS f + szL r
def tmL : Int → List D → Int
 | _, [] => -1
 | a, f :: r => bif isT f then a else tmL (a + fS f) r
/-- The fields whose bytes there are. -/
def flds : Bool → List D → List D
 | _, [] => []
 | t, f :: r => bif t && isT f then flds false r else .a [.i (fN f), .i (fS f), .i (fT f)] :: flds t r
theorem szL_bound : ∀ {fs : List D}, (∀ f ∈ fs, 0 ≤ fS f ∧ fS f ≤ 255) → 0 ≤ szL fs ∧ szL fs ≤ 255 * fs.length
 | [], _ => by simp [szL]
 | f :: r, h => by
  have h1 := h f (by simp)
  have h2 := szL_bound (fs := r) fun x hx => h x (by simp [hx])
  simp only [szL, List.length_cons]
  omega
theorem tmL_bound : ∀ {fs : List D} {a : Int}, 0 ≤ a → (∀ f ∈ fs, 0 ≤ fS f ∧ fS f ≤ 255) → (tmL a fs = -1 ∨ a ≤ tmL a fs ∧ tmL a fs + 4 ≤ a + szL fs)
 | [], _, _, _ => .inl rfl
 | f :: r, a, ha, h => by
  have h1 := h f (by simp)
  simp only [tmL, szL]
  cases ht : isT f with
  | true =>
   have h2 := szL_bound (fs := r) fun x hx => h x (by simp [hx])
   have h3 : fS f = 4 := by unfold isT at ht; simp at ht; exact ht.2
   right; simp only [_root_.cond_true]; omega
  | false =>
   simp only [_root_.cond_false]
   rcases tmL_bound (fs := r) (a := a + fS f) (by omega) (fun x hx => h x (by simp [hx])) with h2 | h2
   ·exact .inl h2
   ·right; omega
theorem szL_flds_false : ∀ fs : List D, szL (flds false fs) = szL fs
 | [] => rfl
 | f :: r => by simp only [flds, Bool.false_and, _root_.cond_false, szL, szL_flds_false r]; rfl
theorem szL_flds : ∀ {fs : List D} {a : Int}, 0 ≤ a → (∀ f ∈ fs, 0 ≤ fS f ∧ fS f ≤ 255) → (tmL a fs < 0 → szL (flds true fs) = szL fs) ∧ (0 ≤ tmL a fs → szL (flds true fs) = szL fs - 4)
 | [], _, _, _ => ⟨fun _ => rfl, fun h => absurd (show (0 : Int) ≤ -1 from h) (by decide)⟩
 | f :: r, a, ha, h => by
  have h1 := h f (by simp)
  have e : fS (.a [.i (fN f), .i (fS f), .i (fT f)]) = fS f := rfl
  cases ht : isT f with
  | true =>
   have h3 : fS f = 4 := by unfold isT at ht; simp at ht; exact ht.2
   simp only [flds, tmL, szL, ht, Bool.and_self, _root_.cond_true, szL_flds_false]
   constructor <;> intro h4 <;> omega
  | false =>
   have h5 := szL_flds (fs := r) (a := a + fS f) (by omega) fun x hx => h x (by simp [hx])
   simp only [flds, tmL, szL, ht, Bool.and_false, _root_.cond_false, e]
   exact ⟨fun h4 => by rw [h5.1 h4], fun h4 => by rw [h5.2 h4]; omega⟩
section
variable {fs : List D}
theorem getD_mem {w : Int} (h0 : 0 ≤ w) (h1 : w < fs.length) : fs.getD w.toNat (.i 0) ∈ fs := by
 rw [List.getD_eq_getElem?_getD, List.getElem?_eq_getElem (by omega)]; exact List.getElem_mem _
theorem isT_eq (f : D) : (bif (bif ((f.cell 0).toI == 253) then ((f.cell 2).toI == 0) else false) then ((f.cell 1).toI == 4) else false) = isT f := by
 unfold isT fN fT fS
 cases (f.cell 0).toI == 253 <;> cases (f.cell 2).toI == 0 <;> rfl
theorem V132x0_eq (f : D) : V132x0 N (f.cell 0).toI (f.cell 1).toI (f.cell 2).toI = isT f := isT_eq f
theorem G123x0_eq (hN : maxLen < N) (h : FldsOk fs) : G123x0 N fs = some (szL fs, tmL 0 fs) := by
 have hm : maxLen = 9223372036854775807 := rfl
 have hl := h.len
 have key := loop_ind (A := Int × Int × Int) (X := Option (Int × Int)) (S := fun x kr => S123x0x9 N fs fs.length x.1 x.2.1 x.2.2 (fun a b c => kr (a, b, c)) (fun p => some p)) (L := fun m x => L123x0x9 N fs fs.length m x.1 x.2.1 x.2.2 (fun p => some p)) (fun m x => rfl)
  (fun x => some (x.2.1 + szL (fs.drop x.1.toNat), bif decide (x.2.2 < 0) then tmL x.2.1 (fs.drop x.1.toNat) else x.2.2)) (fun x => 0 ≤ x.1 ∧ x.1 ≤ fs.length ∧ 0 ≤ x.2.1 ∧ x.2.1 ≤ 255 * x.1 ∧ -1 ≤ x.2.2) (fun x => (fs.length - x.1).toNat) ?_ N (0, 0, -1) ⟨by decide, by show (0 : Int) ≤ _; omega, by decide, by decide, by decide⟩ (by simp; omega)
 ·have k2 : G123x0x9 N fs fs.length 0 0 (-1) = some (szL fs, tmL 0 fs) := by
   refine Eq.trans key ?_
   simp
  unfold G123x0 F123x0
  rw [k2]; rfl
 ·rintro ⟨w, sz, t⟩ kr ⟨h0, h1, h2, h3, h4⟩ ih
  simp only at h0 h1 h2 h3 h4 ih ⊢
  unfold S123x0x9
  by_cases hw : w < fs.length
  ·have hf := h.size _ (getD_mem h0 hw)
   rw [decide_eq_true hw, inB_of h0 hw, drop_at (.i 0) h0 hw]
   simp only [_root_.cond_true, bnd_eq, V123x0x20, F123x0x20]
   rw [isT_eq]
   have e1 : ((fs.getD w.toNat (.i 0)).cell 1).toI = fS (fs.getD w.toNat (.i 0)) := rfl
   rw [e1, wrapI (x := sz + _) (by omega) (by omega), wrapI (x := w + 1) (by omega) (by omega)]
   rw [ih (w + 1, _, _) ⟨by omega, by omega, by simp only; omega, by simp only; omega, by simp only; cases isT (fs.getD w.toNat (.i 0)) <;> cases decide (t < 0) <;> simp <;> omega⟩ (by simp only; omega)]
   simp only [szL, tmL]
   cases ht : isT (fs.getD w.toNat (.i 0)) with
   | true =>
    by_cases hneg : t < 0
    ·simp only [decide_eq_true hneg, _root_.cond_true, decide_eq_false (show ¬ sz < 0 by omega), _root_.cond_false, Option.some.injEq, Prod.mk.injEq, and_true]; omega
    ·simp only [decide_eq_false hneg, _root_.cond_true, _root_.cond_false, Option.some.injEq, Prod.mk.injEq, and_true]; omega
   | false =>
    simp only [_root_.cond_false, Option.some.injEq, Prod.mk.injEq]
    refine ⟨by omega, ?_⟩
    by_cases hneg : t < 0 <;> simp [hneg]
  ·have : w = fs.length := by omega
   subst this
   rw [decide_eq_false hw, drop_end (by omega)]
   simp only [_root_.cond_false, szL, tmL, Int.add_zero, Option.some.injEq, Prod.mk.injEq, true_and]
   by_cases ht : t < 0
   ·rw [decide_eq_true ht]; simp only [_root_.cond_true]; omega
   ·rw [decide_eq_false ht]; rfl
def tmW (n : Int) : Sum Int Unit := bif decide (n < 0) then .inr () else .inl n
theorem G79x0_eq (hN : maxLen < N) (h : FldsOk fs) : G79x0 N fs = some (bif decide (tmL 0 fs < 0) then (0, false) else (tmL 0 fs, true)) := by
 have hm : maxLen = 9223372036854775807 := rfl
 have hl := h.len
 have key := loop_ind (A := Int × Int) (X := Option (Sum Int Unit)) (S := fun x kr => S79x0x9 N fs fs.length x.1 x.2 (fun a b => kr (a, b)) (fun p => some (.inl p)) (fun p => some (.inr p))) (L := fun m x => L79x0x9 N fs fs.length m x.1 x.2 (fun p => some (.inl p)) (fun p => some (.inr p))) (fun m x => rfl)
  (fun x => some (tmW (tmL x.1 (fs.drop x.2.toNat)))) (fun x => 0 ≤ x.2 ∧ x.2 ≤ fs.length ∧ 0 ≤ x.1 ∧ x.1 ≤ 255 * x.2) (fun x => (fs.length - x.2).toNat) ?_ N (0, 0) ⟨by decide, by show (0 : Int) ≤ _; omega, by decide, by decide⟩ (by simp; omega)
 ·have k2 : G79x0x9 N fs fs.length 0 0 = some (tmW (tmL 0 fs)) := by
   refine Eq.trans key ?_
   simp
  unfold G79x0 F79x0
  rw [k2]
  unfold tmW
  cases decide (tmL 0 fs < 0) <;> rfl
 ·rintro ⟨sz, w⟩ kr ⟨h0, h1, h2, h3⟩ ih
  simp only at h0 h1 h2 h3 ih ⊢
  unfold S79x0x9
  by_cases hw : w < fs.length
  ·have hf := h.size _ (getD_mem h0 hw)
   rw [decide_eq_true hw, inB_of h0 hw, drop_at (.i 0) h0 hw]
   simp only [_root_.cond_true, bnd_eq, V132x0_eq]
   have e1 : ((fs.getD w.toNat (.i 0)).cell 1).toI = fS (fs.getD w.toNat (.i 0)) := rfl
   rw [e1, wrapI (x := sz + _) (by omega) (by omega), wrapI (x := w + 1) (by omega) (by omega)]
   simp only [tmL]
   cases ht : isT (fs.getD w.toNat (.i 0)) with
   | true => simp only [_root_.cond_true]; unfold tmW; rw [decide_eq_false (by omega)]; rfl
   | false =>
    simp only [_root_.cond_false]
    exact ih (sz + fS (fs.getD w.toNat (.i 0)), w + 1) ⟨by omega, by omega, by simp only; omega, by simp only; omega⟩ (by simp only; omega)
  ·have : w = fs.length := by omega
   subst this
   rw [decide_eq_false hw, drop_end (by omega)]
   rfl
theorem G126x0_eq (hN : maxLen < N) (h : FldsOk fs) : G126x0 N fs = some (szL fs) := by
 have hm : maxLen = 9223372036854775807 := rfl
 have hl := h.len
 have key := loop_ind (A := Int × Int) (X := Option Int) (S := fun x kr => S126x0x9 N fs fs.length x.1 x.2 (fun a b => kr (a, b)) (fun p => some p)) (L := fun m x => L126x0x9 N fs fs.length m x.1 x.2 (fun p => some p)) (fun m x => rfl)
  (fun x => some (x.1 + szL (fs.drop x.2.toNat))) (fun x => 0 ≤ x.2 ∧ x.2 ≤ fs.length ∧ 0 ≤ x.1 ∧ x.1 ≤ 255 * x.2) (fun x => (fs.length - x.2).toNat) ?_ N (0, 0) ⟨by decide, by show (0 : Int) ≤ _; omega, by decide, by decide⟩ (by simp; omega)
 ·have k2 : G126x0x9 N fs fs.length 0 0 = some (szL fs) := by
   refine Eq.trans key ?_
   simp
  unfold G126x0 F126x0
  rw [k2]; rfl
 ·rintro ⟨sz, w⟩ kr ⟨h0, h1, h2, h3⟩ ih
  simp only at h0 h1 h2 h3 ih ⊢
  unfold S126x0x9
  by_cases hw : w < fs.length
  ·have hf := h.size _ (getD_mem h0 hw)
   rw [decide_eq_true hw, inB_of h0 hw, drop_at (.i 0) h0 hw]
   simp only [_root_.cond_true, bnd_eq]
   have e1 : ((fs.getD w.toNat (.i 0)).cell 1).toI = fS (fs.getD w.toNat (.i 0)) := rfl
   rw [e1, wrapI (x := sz + _) (by omega) (by omega), wrapI (x := w + 1) (by omega) (by omega)]
   rw [ih (sz + fS (fs.getD w.toNat (.i 0)), w + 1) ⟨by omega, by omega, by simp only; omega, by simp only; omega⟩ (by simp only; omega)]
   simp only [szL, Option.some.injEq]; omega
  ·have : w = fs.length := by omega
   subst this
   rw [decide_eq_false hw, drop_end (by omega)]
   simp only [_root_.cond_false, szL, Int.add_zero]
theorem flds_ok : ∀ {fs : List D} {t : Bool}, (∀ f ∈ fs, 0 ≤ fS f ∧ fS f ≤ 255) → (flds t fs).length ≤ fs.length ∧ ∀ f ∈ flds t fs, 0 ≤ fS f ∧ fS f ≤ 255
 | [], _, _ => by simp [flds]
 | f :: r, t, h => by
  have h1 := h f (by simp)
  have h2 : ∀ t, _ := fun t => flds_ok (fs := r) (t := t) fun x hx => h x (by simp [hx])
  simp only [flds]
  cases t && isT f with
  | true => simp only [_root_.cond_true, List.length_cons]; exact ⟨by have := (h2 false).1; omega, (h2 false).2⟩
  | false =>
   simp only [_root_.cond_false, List.length_cons]
   refine ⟨by have := (h2 t).1; omega, fun x hx => ?_⟩
   rcases List.mem_cons.1 hx with rfl | hx
   ·exact h1
   ·exact (h2 t).2 x hx
theorem FldsOk.flds (h : FldsOk fs) (t : Bool) : FldsOk (flds t fs) := ⟨Nat.le_trans (flds_ok h.size).1 h.len, (flds_ok h.size).2⟩
theorem G100x0_eq (hN : maxLen < N) (h : FldsOk fs) (t : Bool) : ∃ nl, G100x0 N fs t = some (nl, flds t fs) := by
 have hm : maxLen = 9223372036854775807 := rfl
 have hl := h.len
 have key := loop_indE (A := Bool × Int × Bool × LD) (X := Option (Bool × LD)) (S := fun x kr => S100x0x12 N fs fs.length x.1 x.2.1 x.2.2.1 x.2.2.2 (fun a b c d => kr (a, b, c, d)) (fun p => some p)) (L := fun m x => L100x0x12 N fs fs.length m x.1 x.2.1 x.2.2.1 x.2.2.2 (fun p => some p)) (fun m x => rfl)
  (fun x r => ∃ nl, r = some (nl, x.2.2.2 ++ Proofs.Ytnnofignhdijiaa.flds x.1 (fs.drop x.2.1.toNat))) (fun x => 0 ≤ x.2.1 ∧ x.2.1 ≤ fs.length ∧ (x.2.2.2.length : Int) ≤ x.2.1) (fun x => (fs.length - x.2.1).toNat) ?_ N (t, 0, true, []) ⟨by show (0 : Int) ≤ 0; omega, by show (0 : Int) ≤ _; omega, by simp⟩ (by simp; omega)
 ·obtain ⟨nl, k2⟩ := key
  have k3 : G100x0x12 N fs fs.length t 0 true [] = some (nl, Proofs.Ytnnofignhdijiaa.flds t fs) := by
   refine Eq.trans k2 ?_
   simp
  refine ⟨nl, ?_⟩
  unfold G100x0 F100x0
  rw [k3]; rfl
 ·rintro ⟨t, w, b, l⟩ kr ⟨h0, h1, h2⟩ ih
  simp only at h0 h1 h2 ih ⊢
  unfold S100x0x12
  by_cases hw : w < fs.length
  ·rw [decide_eq_true hw, inB_of h0 hw, drop_at (.i 0) h0 hw]
   have r1 : decide ((l.length + 1) * 24 ≤ room) = true := decide_eq_true (by unfold room; omega)
   have r2 : decide (l.length + 1 ≤ strMax) = true := decide_eq_true (by unfold strMax; omega)
   have hv : V100x0x19 N t ((fs.getD w.toNat (.i 0)).cell 0).toI ((fs.getD w.toNat (.i 0)).cell 1).toI ((fs.getD w.toNat (.i 0)).cell 2).toI = (t && isT (fs.getD w.toNat (.i 0))) := by
    unfold V100x0x19 F100x0x19
    simp only [bnd_eq, V132x0_eq]
    cases t <;> rfl
   simp only [_root_.cond_true, bnd_eq, hv, r1, r2, Bool.and_self, wrapI (x := w + 1) (by omega) (by omega), Proofs.Ytnnofignhdijiaa.flds]
   cases t && isT (fs.getD w.toNat (.i 0)) with
   | true =>
    simp only [_root_.cond_true]
    exact ih (false, w + 1, b, l) ⟨by simp only; omega, by simp only; omega, by simp only; omega⟩ (by simp only; omega)
   | false =>
    simp only [_root_.cond_false]
    obtain ⟨nl, e⟩ := ih (t, w + 1, false, l ++ [.a [.i (fN (fs.getD w.toNat (.i 0))), .i (fS (fs.getD w.toNat (.i 0))), .i (fT (fs.getD w.toNat (.i 0)))]]) ⟨by simp only; omega, by simp only; omega, by simp; omega⟩ (by simp only; omega)
    exact ⟨nl, by rw [← List.append_cons] at e; exact e⟩
  ·have : w = fs.length := by omega
   subst this
   rw [decide_eq_false hw, drop_end (by omega)]
   exact ⟨b, by simp [Proofs.Ytnnofignhdijiaa.flds]⟩
end
end Go.Proofs.Ytnnofignhdijiaa

/-! Plain laws: the number of bytes; one entry (walk.check, walk.take; the references' entryFault, take). -/
namespace Go.Proofs.Ytnnofignhdijiaa
open Go Go.AM
set_option maxRecDepth 100000
set_option maxHeartbeats 4000000
variable {N : Nat}
theorem or_byte {n b : Nat} (hn : n < 1099511627776) (hb : b < 256) : (bitsV .or .i64 (IntKind.wrap .i64 ((n : Int) * 2 ^ 8)) (IntKind.wrap .i64 (b : Int))).getD 0 = 256 * (n : Int) + b := by
 have e1 : IntKind.wrap .i64 ((n : Int) * 2 ^ 8) = ((n * 256 : Nat) : Int) := by rw [wrapI (by omega) (by omega)]; omega
 have e2 : IntKind.wrap .i64 (b : Int) = (b : Int) := wrapI (by omega) (by omega)
 rw [e1, e2]
 have h64 : IntKind.bits .i64 = 64 := rfl
 have o : (BitVec.ofInt 64 ((n * 256 : Nat) : Int) ||| BitVec.ofInt 64 (b : Int)).toNat = n * 256 + b := by
  rw [BitVec.toNat_or, BitVec.ofInt_natCast, BitVec.ofInt_natCast, BitVec.toNat_ofNat, BitVec.toNat_ofNat, Nat.mod_eq_of_lt (by omega), Nat.mod_eq_of_lt (by omega)]
  have := Nat.shiftLeft_add_eq_or_of_lt (b := b) (i := 8) (by omega) n
  rw [Nat.shiftLeft_eq] at this
  exact this.symm
 show IntKind.wrap .i64 (((BitVec.ofInt 64 ((n * 256 : Nat) : Int) ||| BitVec.ofInt 64 (b : Int)).toNat : Nat) : Int) = _
 rw [o, wrapI (by omega) (by omega)]
 omega
def BytesOk (xs : List D) : Prop := ∀ x ∈ xs, 0 ≤ x.toI ∧ x.toI ≤ 255
def pkB (len : Int) (big : Bool) (i : Int) : Int := bif big then i else len - 1 - i
/-- The number of bytes: so many more, from place i on. -/
def numR (xs : List D) (big : Bool) : Nat → Int → Int → Int
 | 0, _, n => n
 | k + 1, i, n => numR xs big k (i + 1) (256 * n + (xs.getD (pkB xs.length big i).toNat (.i 0)).toI)
def numB (xs : List D) (big : Bool) : Int := numR xs big xs.length 0 0
theorem pow_step {n b i : Int} (h0 : 0 ≤ i) (h1 : 0 ≤ n) (h2 : n < 256 ^ i.toNat) (h3 : 0 ≤ b) (h4 : b ≤ 255) : 0 ≤ 256 * n + b ∧ 256 * n + b < 256 ^ (i + 1).toNat := by
 have e : (i + 1).toNat = i.toNat + 1 := by omega
 rw [e, Int.pow_succ]
 omega
theorem pow_le {n i : Int} (h0 : 0 ≤ i) (h1 : i ≤ 4) (h2 : n < 256 ^ i.toNat) : n < 4294967296 := by
 have : i = 0 ∨ i = 1 ∨ i = 2 ∨ i = 3 ∨ i = 4 := by omega
 rcases this with rfl | rfl | rfl | rfl | rfl <;> simp at h2 <;> omega
theorem getB {xs : List D} (h : BytesOk xs) {i : Int} (h0 : 0 ≤ i) (h1 : i < xs.length) : 0 ≤ (xs.getD i.toNat (.i 0)).toI ∧ (xs.getD i.toNat (.i 0)).toI ≤ 255 := h _ (getD_mem h0 h1)
section
variable {xs : List D}
theorem pkB_in {big : Bool} {i : Int} (h0 : 0 ≤ i) (h1 : i < xs.length) : 0 ≤ pkB xs.length big i ∧ pkB xs.length big i < xs.length := by
 unfold pkB; cases big <;> simp <;> omega
theorem numR_bound (hb : BytesOk xs) (big : Bool) : ∀ (k : Nat) (i n : Int), 0 ≤ i → i + k = xs.length → 0 ≤ n → n < 256 ^ i.toNat → 0 ≤ numR xs big k i n ∧ numR xs big k i n < 256 ^ xs.length
 | 0, i, n, h0, h1, h2, h3 => by
  have : i.toNat = xs.length := by omega
  rw [this] at h3
  exact ⟨h2, h3⟩
 | k + 1, i, n, h0, h1, h2, h3 => by
  obtain ⟨p0, p1⟩ := pkB_in (xs := xs) (big := big) h0 (by omega)
  obtain ⟨b0, b1⟩ := getB hb p0 p1
  obtain ⟨q0, q1⟩ := pow_step h0 h2 h3 b0 b1
  exact numR_bound hb big k (i + 1) _ (by omega) (by omega) q0 q1
theorem numB_bound (hb : BytesOk xs) (big : Bool) (hl : xs.length ≤ 4) : 0 ≤ numB xs big ∧ numB xs big < 4294967296 := by
 obtain ⟨h1, h2⟩ := numR_bound hb big xs.length 0 0 (by omega) (by omega) (by omega) (by simp)
 refine ⟨h1, ?_⟩
 have := pow_le (i := (xs.length : Int)) (by omega) (by omega) (n := numB xs big) (by unfold numB; simpa using h2)
 exact this
theorem G81x0_eq (hN : maxLen < N) (hb : BytesOk xs) (big : Bool) (hl : xs.length ≤ 4) : G81x0 N xs big = some (numB xs big) := by
 have hm : maxLen = 9223372036854775807 := rfl
 have key := loop_ind (A := Int × Int) (X := Option Int) (S := fun x kr => S81x0x9 N xs big xs.length x.1 x.2 (fun a b => kr (a, b)) (fun p => some p)) (L := fun m x => L81x0x9 N xs big xs.length m x.1 x.2 (fun p => some p)) (fun m x => rfl)
  (fun x => some (numR xs big (xs.length - x.2).toNat x.2 x.1)) (fun x => 0 ≤ x.2 ∧ x.2 ≤ xs.length ∧ 0 ≤ x.1 ∧ x.1 < 256 ^ x.2.toNat) (fun x => (xs.length - x.2).toNat) ?_ N (0, 0) ⟨by decide, by show (0 : Int) ≤ _; omega, by decide, by decide⟩ (by simp; omega)
 ·have k2 : G81x0x9 N xs big xs.length 0 0 = some (numB xs big) := by
   refine Eq.trans key ?_
   simp [numB]
  unfold G81x0 F81x0
  rw [k2]; rfl
 ·rintro ⟨n, i⟩ kr ⟨h0, h1, h2, h3⟩ ih
  simp only at h0 h1 h2 h3 ih ⊢
  unfold S81x0x9
  by_cases hw : i < xs.length
  ·obtain ⟨p0, p1⟩ := pkB_in (xs := xs) (big := big) h0 hw
   obtain ⟨b0, b1⟩ := getB hb p0 p1
   obtain ⟨q0, q1⟩ := pow_step h0 h2 h3 b0 b1
   have hn := pow_le h0 (by omega) h3
   have hv : V81x0x23 N i (IntKind.wrap .i64 ((IntKind.wrap .i64 ((xs.length : Int) - 1)) - i)) big = pkB xs.length big i := by
    rw [wrapI (x := (xs.length : Int) - 1) (by omega) (by omega), wrapI (x := (xs.length : Int) - 1 - i) (by omega) (by omega)]
    unfold V81x0x23 F81x0x23 pkB
    cases big <;> rfl
   have ho := or_byte (n := n.toNat) (b := (xs.getD (pkB xs.length big i).toNat (.i 0)).toI.toNat) (by omega) (by omega)
   rw [Int.toNat_of_nonneg h2, Int.toNat_of_nonneg b0] at ho
   rw [decide_eq_true hw]
   simp only [_root_.cond_true, bnd_eq, hv, inB_of p0 p1, ho, wrapI (x := i + 1) (by omega) (by omega)]
   rw [ih (_, i + 1) ⟨by simp only; omega, by simp only; omega, q0, q1⟩ (by simp only; omega)]
   have e : (xs.length - i).toNat = (xs.length - (i + 1)).toNat + 1 := by omega
   rw [e]
   rfl
  ·have : i = xs.length := by omega
   subst this
   rw [decide_eq_false hw]
   simp [numR]
theorem G83x0_eq (hN : maxLen < N) (hb : BytesOk xs) (big : Bool) (hl : xs.length ≤ 4) : G83x0 N xs big = some (numB xs big) := by
 have hm : maxLen = 9223372036854775807 := rfl
 have key := loop_ind (A := Int × Int) (X := Option Int) (S := fun x kr => S83x0x9 N xs big xs.length x.1 x.2 (fun a b => kr (a, b)) (fun p => some p)) (L := fun m x => L83x0x9 N xs big xs.length m x.1 x.2 (fun p => some p)) (fun m x => rfl)
  (fun x => some (numR xs big (xs.length - x.2).toNat x.2 x.1)) (fun x => 0 ≤ x.2 ∧ x.2 ≤ xs.length ∧ 0 ≤ x.1 ∧ x.1 < 256 ^ x.2.toNat) (fun x => (xs.length - x.2).toNat) ?_ N (0, 0) ⟨by decide, by show (0 : Int) ≤ _; omega, by decide, by decide⟩ (by simp; omega)
 ·have k2 : G83x0x9 N xs big xs.length 0 0 = some (numB xs big) := by
   refine Eq.trans key ?_
   simp [numB]
  unfold G83x0 F83x0
  rw [k2]; rfl
 ·rintro ⟨n, i⟩ kr ⟨h0, h1, h2, h3⟩ ih
  simp only at h0 h1 h2 h3 ih ⊢
  unfold S83x0x9
  by_cases hw : i < xs.length
  ·obtain ⟨p0, p1⟩ := pkB_in (xs := xs) (big := big) h0 hw
   obtain ⟨b0, b1⟩ := getB hb p0 p1
   obtain ⟨q0, q1⟩ := pow_step h0 h2 h3 b0 b1
   have hn := pow_le h0 (by omega) h3
   have hv : V83x0x23 N xs i i (!big) = pkB xs.length big i := by
    unfold V83x0x23 F83x0x23 pkB
    rw [wrapI (x := (xs.length : Int) - 1) (by omega) (by omega), wrapI (x := (xs.length : Int) - 1 - i) (by omega) (by omega)]
    cases big <;> rfl
   have ho : IntKind.wrap .i64 ((IntKind.wrap .i64 (256 * n)) + (IntKind.wrap .i64 (xs.getD (pkB xs.length big i).toNat (.i 0)).toI)) = 256 * n + (xs.getD (pkB xs.length big i).toNat (.i 0)).toI := by
    rw [wrapI (x := 256 * n) (by omega) (by omega), wrapI (x := (xs.getD (pkB xs.length big i).toNat (.i 0)).toI) (by omega) (by omega), wrapI (by omega) (by omega)]
   rw [decide_eq_true hw]
   simp only [_root_.cond_true, bnd_eq, hv, inB_of p0 p1, ho, wrapI (x := i + 1) (by omega) (by omega)]
   rw [ih (_, i + 1) ⟨by simp only; omega, by simp only; omega, q0, q1⟩ (by simp only; omega)]
   have e : (xs.length - i).toNat = (xs.length - (i + 1)).toNat + 1 := by omega
   rw [e]
   rfl
  ·have : i = xs.length := by omega
   subst this
   rw [decide_eq_false hw]
   simp [numR]
end
theorem missing4 : G124x0 N 4 false = some 4294967295 := by
 unfold G124x0 F124x0
 have e1 : IntKind.wrap .i64 (8 * 4) = 32 := by decide
 rw [e1]
 have e2 : IntKind.wrap .i64 (1 * 2 ^ (min (32 : Int).toNat 64)) = 4294967296 := by decide
 have e3 : IntKind.wrap .i64 ((4294967296 : Int) - 1) = 4294967295 := by decide
 simp only [_root_.cond_false, bnd_eq, e2, e3]
 rfl
/-! ### One entry -/
/-- The slots as the program and the reference keep them; k: how many entries came. -/
structure Slots (p s : D) : Prop where
 known : ∀ j : Nat, j < 16 → (p.cell (0 + j * 6)).toB = (s.cell (0 + j * 1)).toB
 defs : ∀ j : Nat, j < 16 → (p.cell (0 + j * 6)).toB = true → FldsOk (p.cell (3 + j * 6)).items ∧ (p.cell (1 + j * 6)).toB = (s.cell (16 + j * 3)).toB ∧ (p.cell (2 + j * 6)).toI = (s.cell (17 + j * 3)).toI ∧
  (p.cell (3 + j * 6)).items = (s.cell (18 + j * 3)).items ∧ (p.cell (4 + j * 6)).toI = szL (p.cell (3 + j * 6)).items ∧ (p.cell (5 + j * 6)).toI = tmL 0 (p.cell (3 + j * 6)).items
structure Sim (p s : D) (k : Int) : Prop extends Slots p s where
 last : (p.cell 96).toI = (s.cell 64).toI
 lo : -1 ≤ (p.cell 96).toI
 hi : (p.cell 96).toI ≤ 4294967295 + 32 * k
/-- An entry's lengths and bytes are possible. -/
structure EntL (ds data : List D) : Prop where
 d : ds.length ≤ maxLen
 b : data.length ≤ maxLen
 f : ∀ x ∈ ds, (x.cell 2).items.length ≤ maxLen
 y : BytesOk data
def entE (kind slot off : Int) (ds data : List D) (known : Bool) (size time last : Int) : Int :=
 bif !inI kind 1 3 then 7 else bif !inI slot 0 (bif kind == 3 then 3 else 15) || !inI off 0 (bif kind == 3 then 31 else 0) then 9 else
 bif kind == 1 then (bif ((ds.length : Int) != 1) || decide ((data.length : Int) > 0) then 2 else defE ((ds.getD 0 (.i 0)).cell 1).toI ((ds.getD 0 (.i 0)).cell 2).items) else
 bif (ds.length : Int) != 0 then 2 else bif !known || ((kind == 3) && (decide (time < 0) || decide (last < 0))) then 11 else bif (data.length : Int) != (bif kind == 3 then size - 4 else size) then 2 else 0
section
variable {kind slot off : Int} {ds data : List D} {p s : D} {k : Int}
theorem slot_in (h : inI slot 0 (bif kind == 3 then 3 else 15) = true) : inB slot 16 = true ∧ slot.toNat < 16 := by
 unfold inI at h
 cases hk : kind == 3 <;> rw [hk] at h <;> simp at h <;> exact ⟨inB_of (by omega) (by omega), by omega⟩
theorem G71x0_eq (hN : maxLen < N) (hs : Sim p s k) (he : EntL ds data) : G71x0 N kind slot off ds data p = some (entE kind slot off ds data (p.cell (0 + slot.toNat * 6)).toB (p.cell (4 + slot.toNat * 6)).toI (p.cell (5 + slot.toNat * 6)).toI (p.cell 96).toI) := by
 have hm : maxLen = 9223372036854775807 := rfl
 unfold G71x0 F71x0 entE V71x0x14 F71x0x14 V71x0x20 F71x0x20 V71x0x28 F71x0x28 V71x0x62 F71x0x62
 simp only [bnd_eq, V52x0_eq]
 cases h1 : inI kind 1 3 with
 | false => rfl
 | true =>
 have e14 : (bif kind == 3 then ((3 : Int), (31 : Int)) else (15, 0)) = ((bif kind == 3 then 3 else 15), (bif kind == 3 then 31 else 0)) := by cases kind == 3 <;> rfl
 rw [e14]
 simp only [Bool.not_true, _root_.cond_false]
 cases h2 : inI slot 0 (bif kind == 3 then 3 else 15) with
 | false => rfl
 | true =>
 obtain ⟨i1, i2⟩ := slot_in h2
 cases h3 : inI off 0 (bif kind == 3 then 31 else 0) with
 | false => rfl
 | true =>
 simp only [Bool.not_true, _root_.cond_false, Bool.or_self]
 by_cases hk : kind = 1
 ·subst hk
  simp only [beq_self_eq_true, _root_.cond_true]
  cases h4 : ((ds.length : Int) != 1) with
  | true => rfl
  | false =>
   have hl : ds.length = 1 := by simp at h4; omega
   cases decide ((data.length : Int) > 0) with
   | true => rfl
   | false =>
    have hmem : ds.getD 0 (.i 0) ∈ ds := getD_mem (w := 0) (by omega) (by omega)
    simp only [_root_.cond_false, Bool.or_self]
    rw [inB_of (by omega) (by omega), G122x0_eq hN _ (he.f _ hmem)]
    rfl
 ·have hk1 : (kind == 1) = false := by simpa using hk
  rw [hk1]
  simp only [_root_.cond_false]
  cases h4 : ((ds.length : Int) != 0) with
  | true => rfl
  | false =>
   simp only [_root_.cond_false, i1, _root_.cond_true]
   cases hkn : (p.cell (0 + slot.toNat * 6)).toB with
   | false => rfl
   | true =>
    obtain ⟨d1, _, _, _, d5, d6⟩ := hs.defs _ i2 hkn
    have hb := szL_bound d1.size
    have hl := d1.len
    cases hk3 : kind == 3 with
    | false =>
     simp only [Bool.not_true, _root_.cond_false, Bool.false_and, Bool.or_self]
     cases ((data.length : Int) != (p.cell (4 + slot.toNat * 6)).toI) <;> rfl
    | true =>
     simp only [Bool.not_true, _root_.cond_false, _root_.cond_true, Bool.true_and, Bool.false_or]
     cases decide ((p.cell (5 + slot.toNat * 6)).toI < 0) with
     | true => rfl
     | false =>
      cases decide ((p.cell 96).toI < 0) with
      | true => rfl
      | false =>
       simp only [_root_.cond_false, Bool.or_self]
       rw [wrapI (by omega) (by omega)]
       cases ((data.length : Int) != (p.cell (4 + slot.toNat * 6)).toI - 4) <;> rfl
theorem G73x0_eq (hN : maxLen < N) (hs : Sim p s k) (he : EntL ds data) : G73x0 N kind slot off ds data s = some (entE kind slot off ds data (p.cell (0 + slot.toNat * 6)).toB (p.cell (4 + slot.toNat * 6)).toI (p.cell (5 + slot.toNat * 6)).toI (p.cell 96).toI) := by
 have hm : maxLen = 9223372036854775807 := rfl
 unfold G73x0 F73x0 entE V73x0x17 F73x0x17 V73x0x19 F73x0x19
 simp only [bnd_eq, V57x0_eq]
 cases h1 : inI kind 1 3 with
 | false => rfl
 | true =>
 have e14 : (bif kind == 3 then ((3 : Int), (31 : Int)) else (15, 0)) = ((bif kind == 3 then 3 else 15), (bif kind == 3 then 31 else 0)) := by cases kind == 3 <;> rfl
 rw [e14]
 simp only [Bool.not_true, _root_.cond_false]
 cases h2 : inI slot 0 (bif kind == 3 then 3 else 15) with
 | false => rfl
 | true =>
 obtain ⟨i1, i2⟩ := slot_in h2
 cases h3 : inI off 0 (bif kind == 3 then 31 else 0) with
 | false => rfl
 | true =>
 simp only [Bool.not_true, _root_.cond_false, Bool.or_self]
 by_cases hk : kind = 1
 ·subst hk
  simp only [beq_self_eq_true, _root_.cond_true]
  cases h4 : ((ds.length : Int) != 1) with
  | true => rfl
  | false =>
   have hl : ds.length = 1 := by simp at h4; omega
   cases decide ((data.length : Int) > 0) with
   | true => rfl
   | false =>
    have hmem : ds.getD 0 (.i 0) ∈ ds := getD_mem (w := 0) (by omega) (by omega)
    simp only [_root_.cond_false, Bool.or_self]
    rw [inB_of (by omega) (by omega), G125x0_eq hN _ (he.f _ hmem)]
    rfl
 ·have hk1 : (kind == 1) = false := by simpa using hk
  have e0 : decide ((ds.length : Int) > 0) = ((ds.length : Int) != 0) := by rw [Bool.eq_iff_iff]; simp only [decide_eq_true_eq, bne_iff_ne]; omega
  rw [hk1, e0]
  simp only [_root_.cond_false]
  cases h4 : ((ds.length : Int) != 0) with
  | true => rfl
  | false =>
   simp only [_root_.cond_false, i1, _root_.cond_true, ← hs.known _ i2]
   cases hkn : (p.cell (0 + slot.toNat * 6)).toB with
   | false => rfl
   | true =>
    obtain ⟨d1, _, _, d4, d5, d6⟩ := hs.defs _ i2 hkn
    rw [← d4, ← hs.last, d5, d6, G79x0_eq hN d1]
    obtain ⟨nl, hf⟩ := G100x0_eq hN d1 (kind == 3)
    rw [hf]
    simp only [Option.isSome_some, getD_some, _root_.cond_true, G126x0_eq hN (d1.flds _)]
    have z := szL_flds (a := 0) (by omega) d1.size
    cases hk3 : kind == 3 with
    | false =>
     simp only [Bool.not_true, _root_.cond_false, Bool.false_and, Bool.or_self, szL_flds_false]
     cases ((data.length : Int) != szL (p.cell (3 + slot.toNat * 6)).items) <;> rfl
    | true =>
     by_cases ht : tmL 0 (p.cell (3 + slot.toNat * 6)).items < 0
     ·simp only [decide_eq_true ht, _root_.cond_true]; rfl
     ·simp only [decide_eq_false ht, _root_.cond_false, _root_.cond_true, Bool.not_true, Bool.true_and, Bool.false_or, z.2 (by omega)]
      cases decide ((p.cell 96).toI < 0) with
      | true => rfl
      | false =>
       simp only [_root_.cond_false]
       cases ((data.length : Int) != szL (p.cell (3 + slot.toNat * 6)).items - 4) <;> rfl
end
end Go.Proofs.Ytnnofignhdijiaa

/-! Plain laws: an entry is taken (walk.take and the reference's take do the same). -/
namespace Go.Proofs.Ytnnofignhdijiaa
open Go Go.AM
set_option maxRecDepth 100000
set_option maxHeartbeats 4000000
variable {N : Nat}
structure EntOk (kind slot off : Int) (ds data : List D) (known : Bool) (size time last : Int) : Prop where
 k : 1 ≤ kind ∧ kind ≤ 3
 s : inB slot 16 = true ∧ slot.toNat < 16
 d : kind = 1 → ds.length = 1 ∧ defE ((ds.getD 0 (.i 0)).cell 1).toI ((ds.getD 0 (.i 0)).cell 2).items = 0
 n : kind ≠ 1 → known = true ∧ ds.length = 0
 h : kind = 3 → 0 ≤ time ∧ 0 ≤ last ∧ 0 ≤ off ∧ off ≤ 31 ∧ (data.length : Int) = size - 4
 t : kind = 2 → (data.length : Int) = size
section
variable {kind slot off : Int} {ds data : List D} {p s : D} {k : Int}
theorem entE_ok {known : Bool} {size time last : Int} (h : entE kind slot off ds data known size time last = 0) : EntOk kind slot off ds data known size time last := by
 unfold entE at h
 cases h1 : inI kind 1 3 with
 | false => rw [h1] at h; exact absurd (show (7 : Int) = 0 from h) (by decide)
 | true =>
 cases h2 : inI slot 0 (bif kind == 3 then 3 else 15) with
 | false => rw [h1, h2] at h; exact absurd (show (9 : Int) = 0 from h) (by decide)
 | true =>
 cases h3 : inI off 0 (bif kind == 3 then 31 else 0) with
 | false => rw [h1, h2, h3] at h; exact absurd (show (9 : Int) = 0 from h) (by decide)
 | true =>
 rw [h1, h2, h3] at h
 simp only [Bool.not_true, _root_.cond_false, Bool.or_self] at h
 have hkr : 1 ≤ kind ∧ kind ≤ 3 := by unfold inI at h1; simpa using h1
 by_cases hk : kind = 1
 ·subst hk
  simp only [beq_self_eq_true, _root_.cond_true] at h
  cases h4 : ((ds.length : Int) != 1) || decide ((data.length : Int) > 0) with
  | true => rw [h4] at h; exact absurd (show (2 : Int) = 0 from h) (by decide)
  | false =>
   rw [h4] at h
   simp only [Bool.or_eq_false_iff, bne_eq_false_iff_eq] at h4
   exact ⟨hkr, slot_in h2, fun _ => ⟨by omega, h⟩, fun hn => absurd rfl hn, fun h => by omega, fun h => by omega⟩
 ·have hk1 : (kind == 1) = false := by simpa using hk
  rw [hk1] at h
  simp only [_root_.cond_false] at h
  cases h4 : ((ds.length : Int) != 0) with
  | true => rw [h4] at h; exact absurd (show (2 : Int) = 0 from h) (by decide)
  | false =>
  rw [h4] at h
  simp only [_root_.cond_false] at h
  cases h5 : !known || ((kind == 3) && (decide (time < 0) || decide (last < 0))) with
  | true => rw [h5] at h; exact absurd (show (11 : Int) = 0 from h) (by decide)
  | false =>
  rw [h5] at h
  simp only [_root_.cond_false] at h
  cases h6 : ((data.length : Int) != (bif kind == 3 then size - 4 else size)) with
  | true => rw [h6] at h; exact absurd (show (2 : Int) = 0 from h) (by decide)
  | false =>
  simp only [bne_eq_false_iff_eq] at h4 h6
  simp only [Bool.or_eq_false_iff, Bool.not_eq_false'] at h5
  refine ⟨hkr, slot_in h2, fun h => absurd h hk, fun _ => ⟨h5.1, by omega⟩, fun h3' => ?_, fun h2' => ?_⟩
  ·subst h3'
   simp at h3 h5 h6
   unfold inI at h3
   simp at h3
   omega
  ·subst h2'
   simpa using h6
theorem put6 {a : Nat} {x0 x1 x2 x3 x4 x5 : D} (j : Nat) : let q := (((((p.put (0 + a * 6) x0).put (1 + a * 6) x1).put (2 + a * 6) x2).put (3 + a * 6) x3).put (4 + a * 6) x4).put (5 + a * 6) x5
  q.cell (0 + j * 6) = (if j = a then x0 else p.cell (0 + j * 6)) ∧ q.cell (1 + j * 6) = (if j = a then x1 else p.cell (1 + j * 6)) ∧ q.cell (2 + j * 6) = (if j = a then x2 else p.cell (2 + j * 6)) ∧
  q.cell (3 + j * 6) = (if j = a then x3 else p.cell (3 + j * 6)) ∧ q.cell (4 + j * 6) = (if j = a then x4 else p.cell (4 + j * 6)) ∧ q.cell (5 + j * 6) = (if j = a then x5 else p.cell (5 + j * 6)) := by
 simp only [cell_put]
 by_cases h : j = a
 ·subst h
  simp
 ·simp only [if_neg h]
  refine ⟨?_, ?_, ?_, ?_, ?_, ?_⟩ <;> rw [if_neg (by omega), if_neg (by omega), if_neg (by omega), if_neg (by omega), if_neg (by omega), if_neg (by omega)]
theorem put6_last {a : Nat} {x0 x1 x2 x3 x4 x5 : D} (ha : a < 16) : ((((((p.put (0 + a * 6) x0).put (1 + a * 6) x1).put (2 + a * 6) x2).put (3 + a * 6) x3).put (4 + a * 6) x4).put (5 + a * 6) x5).cell 96 = p.cell 96 := by
 simp only [cell_put]
 rw [if_neg (by omega), if_neg (by omega), if_neg (by omega), if_neg (by omega), if_neg (by omega), if_neg (by omega)]
theorem put4 {a : Nat} {x0 x1 x2 x3 : D} (ha : a < 16) (j : Nat) (hj : j < 16) : let q := (((s.put (0 + a * 1) x0).put (16 + a * 3) x1).put (17 + a * 3) x2).put (18 + a * 3) x3
  q.cell (0 + j * 1) = (if j = a then x0 else s.cell (0 + j * 1)) ∧ q.cell (16 + j * 3) = (if j = a then x1 else s.cell (16 + j * 3)) ∧ q.cell (17 + j * 3) = (if j = a then x2 else s.cell (17 + j * 3)) ∧
  q.cell (18 + j * 3) = (if j = a then x3 else s.cell (18 + j * 3)) ∧ q.cell 64 = s.cell 64 := by
 simp only [cell_put]
 refine ⟨?_, ?_, ?_, ?_, ?_⟩
 ·rw [if_neg (by omega), if_neg (by omega), if_neg (by omega)]
  by_cases h : j = a
  ·rw [if_pos (by omega), if_pos h]
  ·rw [if_neg (by omega), if_neg h]
 ·rw [if_neg (by omega), if_neg (by omega)]
  by_cases h : j = a
  ·rw [if_pos (by omega), if_pos h]
  ·rw [if_neg (by omega), if_neg (by omega), if_neg h]
 ·rw [if_neg (by omega)]
  by_cases h : j = a
  ·rw [if_pos (by omega), if_pos h]
  ·rw [if_neg (by omega), if_neg (by omega), if_neg (by omega), if_neg h]
 ·by_cases h : j = a
  ·rw [if_pos (by omega), if_pos h]
  ·rw [if_neg (by omega), if_neg (by omega), if_neg (by omega), if_neg (by omega), if_neg h]
 ·rw [if_neg (by omega), if_neg (by omega), if_neg (by omega), if_neg (by omega)]
theorem Slots.last (h : Slots p s) {x : D} : Slots p (s.put 64 x) := by
 have c2 : ∀ j : Nat, j < 16 → (s.put 64 x).cell (0 + j * 1) = s.cell (0 + j * 1) ∧ (s.put 64 x).cell (16 + j * 3) = s.cell (16 + j * 3) ∧ (s.put 64 x).cell (17 + j * 3) = s.cell (17 + j * 3) ∧ (s.put 64 x).cell (18 + j * 3) = s.cell (18 + j * 3) := fun j hj => by
  refine ⟨?_, ?_, ?_, ?_⟩ <;> rw [cell_put, if_neg (by omega)]
 refine ⟨fun j hj => ?_, fun j hj hk => ?_⟩
 ·rw [(c2 j hj).1]; exact h.known j hj
 ·rw [(c2 j hj).2.1, (c2 j hj).2.2.1, (c2 j hj).2.2.2]
  exact h.defs j hj hk
theorem Sim.more (h : Sim p s k) : Sim p s (k + 1) := ⟨h.toSlots, h.last, h.lo, by have := h.hi; omega⟩
theorem slice_ok {t : Int} (h0 : 0 ≤ t) (h1 : t + 4 ≤ data.length) (hl : data.length ≤ maxLen) (hb : BytesOk data) : IntKind.wrap .i64 (t + 4) = t + 4 ∧ ((data.take (t + 4).toNat).drop t.toNat).length = 4 ∧ BytesOk ((data.take (t + 4).toNat).drop t.toNat) := by
 have hm : maxLen = 9223372036854775807 := rfl
 exact ⟨wrapI (by omega) (by omega), by simp; omega, fun x hx => hb x (List.mem_of_mem_take (List.mem_of_mem_drop hx))⟩
end
end Go.Proofs.Ytnnofignhdijiaa

/-! Plain laws: CheckFile and Times of the program and of the reference are the same. -/
namespace Go.Proofs.Ytnnofignhdijiaa
open Go Go.AM
set_option maxRecDepth 100000
set_option maxHeartbeats 4000000
variable {N : Nat}
/-- An entry's lengths and bytes are possible. -/
def EntD (x : D) : Prop := EntL (x.cell 3).items (x.cell 4).items
/-- The reference's state at the beginning. -/
def zeroS : D := .a (List.replicate 16 (.b false) ++ (List.replicate 16 [D.b false, D.i 0, D.l true []]).flatten ++ [.i (-1)])
section
variable {es : List D}
end
end Go.Proofs.Ytnnofignhdijiaa

/-! Plain laws: Times. -/
namespace Go.Proofs.Ytnnofignhdijiaa
open Go Go.AM
set_option maxRecDepth 100000
set_option maxHeartbeats 4000000
set_option linter.unusedVariables false
variable {N : Nat}
section
variable {es : List D}
end
end Go.Proofs.Ytnnofignhdijiaa

/-! Plain laws: the sum; a piece of bytes; a definition's fields. -/
namespace Go.Proofs.Ytnnofignhdijiaa
open Go Go.AM
set_option maxRecDepth 100000
set_option maxHeartbeats 4000000
set_option linter.unusedVariables false
variable {N : Nat}
section
variable {bs : List D}
/-! ### A piece -/
theorem BytesOk.sub (hb : BytesOk bs) (a b : Nat) : BytesOk ((bs.take b).drop a) := fun x hx => hb x (List.mem_of_mem_take (List.mem_of_mem_drop hx))
theorem BytesOk.drop (hb : BytesOk bs) (a : Nat) : BytesOk (bs.drop a) := fun x hx => hb x (List.mem_of_mem_drop hx)
/-- The byte at a place. -/
def by_ (bs : List D) (i : Int) : Int := (bs.getD i.toNat (.i 0)).toI
end
end Go.Proofs.Ytnnofignhdijiaa

/-! Plain laws: how many bytes an entry takes. -/
namespace Go.Proofs.Ytnnofignhdijiaa
open Go Go.AM
set_option maxRecDepth 100000
set_option maxHeartbeats 4000000
set_option linter.unusedVariables false
variable {N : Nat}
section
variable {bs : List D}
end
end Go.Proofs.Ytnnofignhdijiaa

/-! Plain laws: one entry read (entries of the program, readEntry of the reference). -/
namespace Go.Proofs.Ytnnofignhdijiaa
open Go Go.AM
set_option maxRecDepth 100000
set_option maxHeartbeats 4000000
set_option linter.unusedVariables false
variable {N : Nat}
section
variable {bs : List D} {p s : D}
theorem clone_no {xs : List D} (h : xs.length ≤ 100000) : G129x0 N false xs = some (false, xs) := by
 have r1 : decide ((0 + xs.length) * 1 ≤ room) = true := decide_eq_true (by unfold room; omega)
 have r2 : decide (0 + xs.length ≤ strMax) = true := decide_eq_true (by unfold strMax; omega)
 unfold G129x0 F129x0
 rw [r1, r2]
 simp
end
end Go.Proofs.Ytnnofignhdijiaa

/-! Plain laws: a definition read; one entry read. -/
namespace Go.Proofs.Ytnnofignhdijiaa
open Go Go.AM
set_option maxRecDepth 100000
set_option maxHeartbeats 4000000
set_option linter.unusedVariables false
variable {N : Nat}
section
variable {bs : List D} {p s : D}
end
end Go.Proofs.Ytnnofignhdijiaa

/-! Plain laws: one entry read. -/
namespace Go.Proofs.Ytnnofignhdijiaa
open Go Go.AM
set_option maxRecDepth 100000
set_option maxHeartbeats 4000000
set_option linter.unusedVariables false
variable {N : Nat}
section
variable {bs : List D} {p s : D}
end
end Go.Proofs.Ytnnofignhdijiaa

/-! Plain laws: Read and Salvage. -/
namespace Go.Proofs.Ytnnofignhdijiaa
open Go Go.AM
set_option maxRecDepth 100000
set_option maxHeartbeats 4000000
set_option linter.unusedVariables false
variable {N : Nat}
section
variable {b : List D}
/-- A list of entries that are possible. -/
structure Lst (l : List D) : Prop where
 e : ∀ x ∈ l, EntD x
 n : l.length ≤ 10000000
theorem Lst.nil : Lst [] := ⟨by simp, by simp⟩
end
end Go.Proofs.Ytnnofignhdijiaa

/-! Plain laws: Salvage. -/
namespace Go.Proofs.Ytnnofignhdijiaa
open Go Go.AM
set_option maxRecDepth 100000
set_option maxHeartbeats 4000000
set_option linter.unusedVariables false
variable {N : Nat}
section
variable {b : List D}
end
end Go.Proofs.Ytnnofignhdijiaa

/-! Plain laws: what the law compares is the same as itself. -/
namespace Go.Proofs.Ytnnofignhdijiaa
open Go Go.AM
set_option maxRecDepth 100000
set_option maxHeartbeats 4000000
set_option linter.unusedVariables false
variable {N : Nat}
theorem zipAll_true : ∀ xs : List D, zipAll (fun _ _ => true) xs xs = true
 | [] => rfl
 | x :: r => by simp only [zipAll, Bool.true_and]; exact zipAll_true r
theorem inB_mem {xs : List D} {w : Int} (h : inB w xs.length = true) : xs.getD w.toNat (.i 0) ∈ xs := by
 unfold inB at h
 simp at h
 exact getD_mem h.1 h.2
/-- A loop over a list and itself that finds nothing. -/
theorem refl_ind {xs : List D} {S : Int → (Int → Option (Sum Unit Unit)) → Option (Sum Unit Unit)} {L : Nat → Int → Option (Sum Unit Unit)} (hL : ∀ m a, L (m + 1) a = S a (L m)) (hlen : xs.length ≤ maxLen)
  (hend : ∀ kr, S xs.length kr = some (.inr ()))
  (hstep : ∀ (w : Int) (kr : Int → Option (Sum Unit Unit)), decide (w < xs.length) = true → inB w xs.length = true → xs.getD w.toNat (.i 0) ∈ xs → S w kr = kr (IntKind.wrap .i64 (w + 1)))
  (hN : maxLen < N) : L N 0 = some (.inr ()) := by
 have := zip_ind (xs := xs) (ys := xs) (fun _ _ => true) hL hlen rfl hend (fun w kr h1 h2 _ => by rw [hstep w kr h1 h2 (inB_mem h2)]; rfl) hN
 rw [this, zipAll_true]
 rfl
section
variable {xs : List D}
theorem len_self (xs : List D) : ((xs.length : Int) != (xs.length : Int)) = false := by simp
theorem G140_refl (hN : maxLen < N) (hl : xs.length ≤ maxLen) : G140x0 N xs xs = some true := by
 have k : G140x0x12 N xs xs xs.length 0 = some (.inr ()) := by
  refine refl_ind (S := fun w kr => S140x0x12 N xs xs xs.length w kr _ _) (L := fun m w => L140x0x12 N xs xs xs.length m w _ _) (fun m w => rfl) hl (fun kr => by simp [S140x0x12]) (fun w kr h1 h2 h3 => ?_) hN
  unfold S140x0x12
  rw [h1, h2]
  simp [bnd_eq]
 unfold G140x0 F140x0
 rw [len_self, k]; rfl
theorem G25_refl (hN : maxLen < N) (hl : xs.length ≤ maxLen) : G25x0 N xs xs = some true := by
 have k : G25x0x12 N xs xs xs.length 0 = some (.inr ()) := by
  refine refl_ind (S := fun w kr => S25x0x12 N xs xs xs.length w kr _ _) (L := fun m w => L25x0x12 N xs xs xs.length m w _ _) (fun m w => rfl) hl (fun kr => by simp [S25x0x12]) (fun w kr h1 h2 h3 => ?_) hN
  unfold S25x0x12
  rw [h1, h2]
  simp [bnd_eq]
 unfold G25x0 F25x0
 rw [len_self, k]; rfl
theorem G104_refl (hN : maxLen < N) (hl : xs.length ≤ maxLen) (a : Bool) (g : Int) : G104x0 N a g xs a g xs = some true := by
 unfold G104x0 F104x0 G104x0x4 F104x0x4
 rw [G140_refl hN hl]
 simp [bnd_eq]
end
end Go.Proofs.Ytnnofignhdijiaa

/-! Plain laws: what is known behind some entries, as plain functions. -/
namespace Go.Proofs.Ytnnofignhdijiaa
open Go Go.AM
set_option maxRecDepth 100000
set_option maxHeartbeats 4000000
set_option linter.unusedVariables false
variable {N : Nat}
abbrev kX (x : D) : Int := (x.cell 0).toI
abbrev sX (x : D) : Int := (x.cell 1).toI
abbrev oX (x : D) : Int := (x.cell 2).toI
abbrev dX (x : D) : List D := (x.cell 3).items
abbrev bX (x : D) : List D := (x.cell 4).items
/-- The definitions by slots, and the last time. -/
structure Ab where
 kn : Nat → Bool
 bg : Nat → Bool
 gl : Nat → Int
 fs : Nat → List D
 last : Int
def Ab.start : Ab := ⟨fun _ => false, fun _ => false, fun _ => 0, fun _ => [], -1⟩
def upA {α : Type} (f : Nat → α) (j : Nat) (x : α) : Nat → α := fun i => if i = j then x else f i
def timeC (a : Ab) (kind slot off : Int) (data : List D) : Int :=
 bif kind == 1 then -1 else bif kind == 3 then a.last + (off - a.last % 32 + 32) % 32 else
 bif decide (tmL 0 (a.fs slot.toNat) < 0) then -1 else
 bif numB ((data.take (tmL 0 (a.fs slot.toNat) + 4).toNat).drop (tmL 0 (a.fs slot.toNat)).toNat) (a.bg slot.toNat) == 4294967295 then -1 else numB ((data.take (tmL 0 (a.fs slot.toNat) + 4).toNat).drop (tmL 0 (a.fs slot.toNat)).toNat) (a.bg slot.toNat)
def stepD (a : Ab) (kind slot off : Int) (ds data : List D) : Ab :=
 bif kind == 1 then { a with kn := upA a.kn slot.toNat true, bg := upA a.bg slot.toNat ((ds.getD 0 (.i 0)).cell 0).toB, gl := upA a.gl slot.toNat ((ds.getD 0 (.i 0)).cell 1).toI, fs := upA a.fs slot.toNat ((ds.getD 0 (.i 0)).cell 2).items } else
 { a with last := bif decide (timeC a kind slot off data ≥ 0) then timeC a kind slot off data else a.last }
abbrev timeE (a : Ab) (x : D) : Int := timeC a (kX x) (sX x) (oX x) (bX x)
abbrev stepA (a : Ab) (x : D) : Ab := stepD a (kX x) (sX x) (oX x) (dX x) (bX x)
def errC (a : Ab) (kind slot off : Int) (ds data : List D) : Int := entE kind slot off ds data (a.kn slot.toNat) (szL (a.fs slot.toNat)) (tmL 0 (a.fs slot.toNat)) a.last
abbrev errE (a : Ab) (x : D) : Int := errC a (kX x) (sX x) (oX x) (dX x) (bX x)
structure SlP (p : D) (a : Ab) : Prop where
 kn : ∀ j : Nat, j < 16 → (p.cell (0 + j * 6)).toB = a.kn j
 df : ∀ j : Nat, j < 16 → a.kn j = true → FldsOk (a.fs j) ∧ (p.cell (1 + j * 6)).toB = a.bg j ∧ (p.cell (2 + j * 6)).toI = a.gl j ∧ (p.cell (3 + j * 6)).items = a.fs j ∧ (p.cell (4 + j * 6)).toI = szL (a.fs j) ∧ (p.cell (5 + j * 6)).toI = tmL 0 (a.fs j)
structure SlS (s : D) (a : Ab) : Prop where
 kn : ∀ j : Nat, j < 16 → (s.cell (0 + j * 1)).toB = a.kn j
 df : ∀ j : Nat, j < 16 → a.kn j = true → (s.cell (16 + j * 3)).toB = a.bg j ∧ (s.cell (17 + j * 3)).toI = a.gl j ∧ (s.cell (18 + j * 3)).items = a.fs j
/-- The program's walk and the reference's state stand for a; k: how many entries came. -/
structure Wk (p s : D) (a : Ab) (k : Int) : Prop where
 pp : SlP p a
 ss : SlS s a
 lp : (p.cell 96).toI = a.last
 ls : (s.cell 64).toI = a.last
 lo : -1 ≤ a.last
 hi : a.last ≤ 4294967295 + 32 * k
theorem slots_of {p s : D} {a : Ab} (hp : SlP p a) (hs : SlS s a) : Slots p s :=
 ⟨fun j hj => by rw [hp.kn j hj, hs.kn j hj], fun j hj hk => by
  rw [hp.kn j hj] at hk
  obtain ⟨p1, p2, p3, p4, p5, p6⟩ := hp.df j hj hk
  obtain ⟨s1, s2, s3⟩ := hs.df j hj hk
  rw [p2, p3, p4, p5, p6, s1, s2, s3]
  exact ⟨p1, rfl, rfl, rfl, rfl, rfl⟩⟩
theorem Wk.sim {p s : D} {a : Ab} {k : Int} (h : Wk p s a k) : Sim p s k := ⟨slots_of h.pp h.ss, by rw [h.lp, h.ls], by rw [h.lp]; exact h.lo, by rw [h.lp]; exact h.hi⟩
theorem entE_known {kind slot off : Int} {ds data : List D} {size time size' time' last : Int} : entE kind slot off ds data false size time last = entE kind slot off ds data false size' time' last := by
 unfold entE; rfl
theorem err_of {p : D} {a : Ab} (hp : SlP p a) (lp : (p.cell 96).toI = a.last) {kind slot off : Int} {ds data : List D} : entE kind slot off ds data (p.cell (0 + slot.toNat * 6)).toB (p.cell (4 + slot.toNat * 6)).toI (p.cell (5 + slot.toNat * 6)).toI (p.cell 96).toI = errC a kind slot off ds data := by
 unfold errC
 rw [lp]
 by_cases h1 : inI slot 0 (bif kind == 3 then 3 else 15) = true
 ·obtain ⟨_, h2⟩ := slot_in h1
  rw [hp.kn _ h2]
  cases hk : a.kn slot.toNat with
  | false => exact entE_known
  | true =>
   obtain ⟨_, _, _, _, p5, p6⟩ := hp.df _ h2 hk
   rw [p5, p6]
 ·have h1 : inI slot 0 (bif kind == 3 then 3 else 15) = false := by simpa using h1
  unfold entE
  rw [h1]
  rfl
section
variable {kind slot off : Int} {ds data : List D} {p s : D} {a : Ab} {k : Int}
theorem slP_put (hp : SlP p a) {j : Nat} (i2 : j < 16) {big : Bool} {g : Int} {nl : Bool} {fs : List D} (hf : FldsOk fs) {last : Int} :
  SlP ((((((p.put (0 + j * 6) (.b true)).put (1 + j * 6) (.b big)).put (2 + j * 6) (.i g)).put (3 + j * 6) (.l nl fs)).put (4 + j * 6) (.i (szL fs))).put (5 + j * 6) (.i (tmL 0 fs))) { kn := upA a.kn j true, bg := upA a.bg j big, gl := upA a.gl j g, fs := upA a.fs j fs, last := last } := by
 refine ⟨fun i hi => ?_, fun i hi hkn => ?_⟩
 ·rw [(put6 i).1]
  unfold upA
  by_cases h : i = j
  ·simp only [if_pos h]; rfl
  ·simp only [if_neg h]; exact hp.kn i hi
 ·obtain ⟨a0, a1, a2, a3, a4, a5⟩ := put6 (p := p) (a := j) (x0 := .b true) (x1 := .b big) (x2 := .i g) (x3 := .l nl fs) (x4 := .i (szL fs)) (x5 := .i (tmL 0 fs)) i
  rw [a1, a2, a3, a4, a5]
  unfold upA at hkn ⊢
  by_cases h : i = j
  ·simp only [if_pos h]
   refine ⟨hf, ?_, ?_, ?_, ?_, ?_⟩ <;> first | trivial | rfl
  ·simp only [if_neg h] at hkn ⊢
   exact hp.df i hi hkn
theorem slS_put (hs : SlS s a) {j : Nat} (i2 : j < 16) {big : Bool} {g : Int} {nl : Bool} {fs : List D} {last : Int} :
  SlS ((((s.put (0 + j * 1) (.b true)).put (16 + j * 3) (.b big)).put (17 + j * 3) (.i g)).put (18 + j * 3) (.l nl fs)) { kn := upA a.kn j true, bg := upA a.bg j big, gl := upA a.gl j g, fs := upA a.fs j fs, last := last } := by
 refine ⟨fun i hi => ?_, fun i hi hkn => ?_⟩
 ·rw [(put4 i2 i hi).1]
  unfold upA
  by_cases h : i = j
  ·simp only [if_pos h]; rfl
  ·simp only [if_neg h]; exact hs.kn i hi
 ·obtain ⟨b0, b1, b2, b3, _⟩ := put4 (s := s) (x0 := .b true) (x1 := .b big) (x2 := .i g) (x3 := .l nl fs) i2 i hi
  rw [b1, b2, b3]
  unfold upA at hkn ⊢
  by_cases h : i = j
  ·simp only [if_pos h]
   refine ⟨?_, ?_, ?_⟩ <;> first | trivial | rfl
  ·simp only [if_neg h] at hkn ⊢
   exact hs.df i hi hkn
theorem slP_last (hp : SlP p a) {x : D} {l : Int} : SlP (p.put 96 x) { a with last := l } := by
 have c1 : ∀ c j : Nat, c < 6 → j < 16 → (p.put 96 x).cell (c + j * 6) = p.cell (c + j * 6) := fun c j hc hj => by rw [cell_put, if_neg (by omega)]
 refine ⟨fun j hj => ?_, fun j hj hk => ?_⟩
 ·rw [c1 0 j (by omega) hj]; exact hp.kn j hj
 ·rw [c1 1 j (by omega) hj, c1 2 j (by omega) hj, c1 3 j (by omega) hj, c1 4 j (by omega) hj, c1 5 j (by omega) hj]
  exact hp.df j hj hk
theorem slS_last (hs : SlS s a) {x : D} {l : Int} : SlS (s.put 64 x) { a with last := l } := by
 have c2 : ∀ j : Nat, j < 16 → (s.put 64 x).cell (0 + j * 1) = s.cell (0 + j * 1) ∧ (s.put 64 x).cell (16 + j * 3) = s.cell (16 + j * 3) ∧ (s.put 64 x).cell (17 + j * 3) = s.cell (17 + j * 3) ∧ (s.put 64 x).cell (18 + j * 3) = s.cell (18 + j * 3) := fun j hj => by
  refine ⟨?_, ?_, ?_, ?_⟩ <;> rw [cell_put, if_neg (by omega)]
 refine ⟨fun j hj => ?_, fun j hj hk => ?_⟩
 ·rw [(c2 j hj).1]; exact hs.kn j hj
 ·rw [(c2 j hj).2.1, (c2 j hj).2.2.1, (c2 j hj).2.2.2]
  exact hs.df j hj hk
theorem Wk.put (h : Wk p s a k) {t : Int} (h0 : 0 ≤ t) (h1 : t ≤ 4294967295 + 32 * (k + 1)) : Wk (p.put 96 (.i t)) (s.put 64 (.i t)) { a with last := t } (k + 1) :=
 ⟨slP_last h.pp, slS_last h.ss, by simp [cell_put, D.toI], by simp [cell_put, D.toI], by simp only; omega, h1⟩
theorem Wk.more (h : Wk p s a k) : Wk p s a (k + 1) := ⟨h.pp, h.ss, h.lp, h.ls, h.lo, by have := h.hi; omega⟩
theorem take_abs (hN : maxLen < N) (hs : Wk p s a k) (he : EntL ds data) (h0 : 0 ≤ k) (h1 : k ≤ 100000) (hE : errC a kind slot off ds data = 0) :
  ∃ p' s', G72x0 N kind slot off ds data p = some (timeC a kind slot off data, p') ∧ G74x0 N kind slot off ds data s = some (timeC a kind slot off data, s') ∧ Wk p' s' (stepD a kind slot off ds data) (k + 1) := by
 have hm : maxLen = 9223372036854775807 := rfl
 have hE := entE_ok hE
 obtain ⟨i1, i2⟩ := hE.s
 unfold G72x0 F72x0 G72x0x15014 F72x0x15014 G74x0 F74x0 stepD timeC
 have e38 : ∀ q, V72x0x38 N (-1) false q = q := fun q => rfl
 rw [i1]
 by_cases hk1 : kind = 1
 ·subst hk1
  obtain ⟨d1, d2⟩ := hE.d rfl
  have hf := defE_ok d2
  have q1 := G123x0_eq hN hf
  simp only [beq_self_eq_true, _root_.cond_true, inB_of (i := 0) (n := ds.length) (by omega) (by omega), bnd_eq, q1, Option.isSome_some, getD_some]
  have e1 : decide ((-1 : Int) ≥ 0) = false := by decide
  rw [e1, e38]
  refine ⟨_, _, rfl, rfl, ?_⟩
  refine ⟨slP_put hs.pp i2 hf, slS_put hs.ss i2, ?_, ?_, hs.lo, by have := hs.hi; simp only; omega⟩
  ·rw [put6_last i2]; exact hs.lp
  ·rw [(put4 i2 0 (by omega)).2.2.2.2]; exact hs.ls
 ·have hk1' : (kind == 1) = false := by simpa using hk1
  obtain ⟨kn, _⟩ := hE.n hk1
  obtain ⟨d1, d2, d3, d4, d5, d6⟩ := hs.pp.df _ i2 kn
  obtain ⟨s2, s3, s4⟩ := hs.ss.df _ i2 kn
  unfold G72x0x21020 F72x0x21020
  rw [hk1']
  simp only [_root_.cond_false, bnd_eq, hs.lp, hs.ls, d2, d6, s2, s4]
  have hlo := hs.lo
  have hhi := hs.hi
  by_cases hk3 : kind = 3
  ·subst hk3
   obtain ⟨t0, l0, o0, o1, _⟩ := hE.h rfl
   have m0 : a.last.tmod 32 = a.last % 32 := Int.tmod_eq_emod_of_nonneg l0
   have w1 : IntKind.wrap .i64 (off - a.last % 32) = off - a.last % 32 := wrapI (by omega) (by omega)
   have w2 : IntKind.wrap .i64 (off - a.last % 32 + 32) = off - a.last % 32 + 32 := wrapI (by omega) (by omega)
   have m1 : (off - a.last % 32 + 32).tmod 32 = (off - a.last % 32 + 32) % 32 := Int.tmod_eq_emod_of_nonneg (by omega)
   have w3 : IntKind.wrap .i64 (a.last + (off - a.last % 32 + 32) % 32) = a.last + (off - a.last % 32 + 32) % 32 := wrapI (by omega) (by omega)
   simp only [beq_self_eq_true, _root_.cond_true, m0, w1, w2, m1, w3, Option.isSome_some, getD_some, V72x0x38, F72x0x38]
   rw [decide_eq_true (show a.last + (off - a.last % 32 + 32) % 32 ≥ 0 by omega)]
   simp only [_root_.cond_true]
   refine ⟨_, _, rfl, ?_, hs.put (t := a.last + (off - a.last % 32 + 32) % 32) (by omega) (by omega)⟩
   rw [cell_put, if_pos rfl]
   rfl
  ·have hk2 : kind = 2 := by have := hE.k; omega
   subst hk2
   have hlen := hE.t rfl
   have e3 : ((2 : Int) == 3) = false := by decide
   rw [e3]
   unfold G72x0x26 F72x0x26
   rw [G79x0_eq hN d1]
   have tb := tmL_bound (a := 0) (by omega) d1.size
   by_cases ht : tmL 0 (a.fs slot.toNat) < 0
   ·rw [decide_eq_true ht, decide_eq_false (by omega : ¬ tmL 0 (a.fs slot.toNat) ≥ 0)]
    have e1 : decide ((-1 : Int) ≥ 0) = false := by decide
    refine ⟨p, s, ?_, ?_, hs.more⟩
    ·rfl
    ·rfl
   ·rw [decide_eq_false ht, decide_eq_true (by omega : tmL 0 (a.fs slot.toNat) ≥ 0)]
    have h4 : tmL 0 (a.fs slot.toNat) + 4 ≤ data.length := by rw [hlen]; omega
    generalize tmL 0 (a.fs slot.toNat) = tm at ht h4 ⊢
    obtain ⟨s1, s2, s3⟩ := slice_ok (by omega) h4 he.b he.y
    have nb := numB_bound s3 (a.bg slot.toNat) (by omega)
    have c0 : decide ((0 : Int) ≤ tm) = true := decide_eq_true (by omega)
    have c1 : decide (tm ≤ tm + 4) = true := decide_eq_true (by omega)
    have c2 : decide (tm + 4 ≤ (data.length : Int)) = true := decide_eq_true (by omega)
    have q1 := G81x0_eq hN s3 (a.bg slot.toNat) (by omega)
    have q2 := G83x0_eq hN s3 (a.bg slot.toNat) (by omega)
    simp only [_root_.cond_true, _root_.cond_false, bnd_eq, Bool.and_self, s1, c0, c1, c2, q1, q2, missing4, Option.isSome_some, getD_some, V72x0x32, F72x0x32, Bool.not_true, V72x0x38, F72x0x38]
    generalize numB ((data.take (tm + 4).toNat).drop tm.toNat) (a.bg slot.toNat) = n at nb ⊢
    by_cases hn : n = 4294967295
    ·subst hn
     exact ⟨p, s, rfl, rfl, hs.more⟩
    ·have e4 : (n != 4294967295) = true := by simpa using hn
     have e5 : (n == 4294967295) = false := by simpa using hn
     rw [e4, e5]
     simp only [_root_.cond_true, _root_.cond_false]
     rw [decide_eq_true (show n ≥ 0 by omega)]
     simp only [_root_.cond_true]
     exact ⟨_, _, rfl, rfl, hs.put (by omega) (by omega)⟩
end
/-! ### Files -/
def errsA : Ab → List D → Int
 | _, [] => 0
 | a, x :: r => bif errE a x != 0 then errE a x else errsA (stepA a x) r
def timesA : Ab → List D → List Int
 | _, [] => []
 | a, x :: r => timeE a x :: timesA (stepA a x) r
theorem start_wk {p : D} (hp : (List.range 16).all (fun j => !(p.cell (0 + j * 6)).toB && !(zeroS.cell (0 + j * 1)).toB) = true) (hl : (p.cell 96).toI = -1) : Wk p zeroS Ab.start 0 := by
 have h : ∀ j : Nat, j < 16 → (p.cell (0 + j * 6)).toB = false ∧ (zeroS.cell (0 + j * 1)).toB = false := fun j hj => by
  have := List.all_eq_true.1 hp j (List.mem_range.2 hj)
  simpa using this
 exact ⟨⟨fun j hj => (h j hj).1, fun j hj hk => absurd hk (by simp [Ab.start])⟩, ⟨fun j hj => (h j hj).2, fun j hj hk => absurd hk (by simp [Ab.start])⟩, hl, by kernel_rfl, by decide, by decide⟩
theorem start70 : Wk (V70x0 N) zeroS Ab.start 0 := start_wk (by kernel_rfl) (by kernel_rfl)
/-- CheckFile, as a plain function. -/
def fileE (es : List D) : Int := bif decide ((es.length : Int) > 50000) then 3 else errsA Ab.start es
section
variable {es : List D}
theorem check_loopA (hN : maxLen < N) (hes : ∀ x ∈ es, EntD x) (hl : es.length ≤ 50000) : ∀ (m : Nat) (i : Int) (p s : D) (a : Ab), 0 ≤ i → i ≤ es.length → (es.length - i).toNat < m → Wk p s a i →
  L22x0x15 N es es.length m i p (fun p => some (Sum.inl p)) (fun p => some (Sum.inr p)) = some (bif errsA a (es.drop i.toNat) != 0 then .inl (errsA a (es.drop i.toNat)) else .inr ()) ∧
  L23x0x15 N es es.length m i s (fun p => some (Sum.inl p)) (fun p => some (Sum.inr p)) = some (bif errsA a (es.drop i.toNat) != 0 then .inl (errsA a (es.drop i.toNat)) else .inr ()) := by
 intro m
 induction m with
 | zero => intro i p s a _ _ h; omega
 | succ m ih =>
  intro i p s a h0 h1 hm hs
  unfold L22x0x15 L23x0x15 S22x0x15 S23x0x15
  by_cases hi : i < es.length
  ·have he : EntD _ := hes _ (getD_mem (fs := es) h0 hi)
   rw [decide_eq_true hi, inB_of h0 hi, G71x0_eq hN hs.sim he, G73x0_eq hN hs.sim he, err_of hs.pp hs.lp, drop_at (.i 0) h0 hi]
   simp only [_root_.cond_true, bnd_eq, Option.isSome_some, getD_some, errsA]
   cases hz : (errE a (es.getD i.toNat (.i 0)) != 0) with
   | false =>
    have hz' : errE a (es.getD i.toNat (.i 0)) = 0 := by simpa using hz
    obtain ⟨p', s', q1, q2, hs'⟩ := take_abs hN hs he h0 (by omega) hz'
    rw [q1, q2]
    simp only [_root_.cond_false, Option.isSome_some, _root_.cond_true, getD_some, wrapI (x := i + 1) (by omega) (by omega)]
    exact ih (i + 1) p' s' _ (by omega) (by omega) (by omega) hs'
   | true =>
    simp only [_root_.cond_true, hz]
    exact ⟨trivial, trivial⟩
  ·have : i = es.length := by omega
   subst this
   rw [decide_eq_false hi, drop_end (by omega)]
   exact ⟨rfl, rfl⟩
theorem check_fileA (hN : maxLen < N) (hes : ∀ x ∈ es, EntD x) : G22x0 N es = some (fileE es) ∧ G23x0 N es = some (fileE es) := by
 unfold fileE
 by_cases hl : (es.length : Int) > 50000
 ·unfold G22x0 F22x0 G23x0 F23x0
  rw [decide_eq_true hl]; exact ⟨rfl, rfl⟩
 ·have hm : maxLen = 9223372036854775807 := rfl
  obtain ⟨q1, q2⟩ := check_loopA hN hes (by omega) N 0 (V70x0 N) zeroS Ab.start (by omega) (by omega) (by omega) start70
  have k1 : G22x0x15 N es es.length 0 (V70x0 N) = _ := q1
  have k2 : G23x0x15 N es es.length 0 zeroS = _ := q2
  have k3 : G22x0 N es = bnd (G22x0x15 N es es.length 0 (V70x0 N)) (fun y1 => bif inlB y1 then some (inlV y1) else bif (inrQ y1).isSome then some 0 else none) := by
   unfold G22x0 F22x0
   rw [decide_eq_false hl]; rfl
  have k4 : G23x0 N es = bnd (G23x0x15 N es es.length 0 zeroS) (fun y1 => bif inlB y1 then some (inlV y1) else bif (inrQ y1).isSome then some 0 else none) := by
   unfold G23x0 F23x0
   rw [decide_eq_false hl]; rfl
  rw [k3, k4, k1, k2, decide_eq_false hl]
  simp only [show (0 : Int).toNat = 0 from rfl, List.drop_zero, _root_.cond_false]
  cases h : errsA Ab.start es != 0 with
  | true => exact ⟨rfl, rfl⟩
  | false =>
   have : errsA Ab.start es = 0 := by simpa using h
   rw [this]; exact ⟨rfl, rfl⟩
theorem errs_cons {a : Ab} {x : D} {r : List D} (h : errsA a (x :: r) = 0) : errE a x = 0 ∧ errsA (stepA a x) r = 0 := by
 simp only [errsA] at h
 cases hz : (errE a x != 0) with
 | true =>
  rw [hz] at h
  simp only [_root_.cond_true] at h
  rw [h] at hz; simp at hz
 | false =>
  rw [hz] at h
  exact ⟨by simpa using hz, h⟩
theorem fileE_ok (h : fileE es = 0) : es.length ≤ 50000 ∧ errsA Ab.start es = 0 := by
 unfold fileE at h
 by_cases hl : (es.length : Int) > 50000
 ·rw [decide_eq_true hl] at h; exact absurd (show (3 : Int) = 0 from h) (by decide)
 ·rw [decide_eq_false hl] at h; exact ⟨by omega, h⟩
end
end Go.Proofs.Ytnnofignhdijiaa

/-! Plain laws: the bytes of an entry; Write. -/
namespace Go.Proofs.Ytnnofignhdijiaa
open Go Go.AM
set_option maxRecDepth 100000
set_option maxHeartbeats 4000000
set_option linter.unusedVariables false
variable {N : Nat}
/-- A byte of a number. -/
def bt (n i : Int) : D := .i (IntKind.wrap .u8 (n.fdiv (2 ^ (min (IntKind.wrap .i64 (8 * i)).toNat 64))))
def nb4 (n : Int) (big : Bool) : List D := bif big then [bt n 3, bt n 2, bt n 1, bt n 0] else [bt n 0, bt n 1, bt n 2, bt n 3]
theorem fuel (hN : maxLen < N) (j : Nat) (hj : j ≤ 1000) : ∃ k, N = k + j := by
 have hm : maxLen = 9223372036854775807 := rfl
 exact ⟨N - j, by omega⟩
theorem P67_4 (hN : maxLen < N) (n : Int) (big : Bool) : G67x0 N n 4 big = some (nb4 n big) := by
 obtain ⟨k, rfl⟩ := fuel hN 8 (by omega)
 cases big <;> kernel_rfl
theorem P69_4 (hN : maxLen < N) (n : Int) (big : Bool) : G69x0 N n 4 big = some (nb4 n big) := by
 obtain ⟨k, rfl⟩ := fuel hN 8 (by omega)
 cases big <;> kernel_rfl
/-! ### An entry's bytes -/
def u8 (n : Int) : D := .i (IntKind.wrap .u8 n)
theorem nb4_len (n : Int) (big : Bool) : (nb4 n big).length = 4 := by cases big <;> rfl
/-- What a right entry is. -/
theorem ent_ok {a : Ab} {kind slot off : Int} {ds data : List D} (hf : a.kn slot.toNat = true → FldsOk (a.fs slot.toNat)) (h : errC a kind slot off ds data = 0) :
  (1 ≤ kind ∧ kind ≤ 3) ∧ (0 ≤ slot ∧ slot ≤ 15) ∧ (0 ≤ off ∧ off ≤ 31) ∧ (kind = 1 → ds.length = 1 ∧ ((ds.getD 0 (.i 0)).cell 2).items.length ≤ 255) ∧ data.length ≤ 65025 := by
 have hE := entE_ok h
 have hin : inI slot 0 (bif kind == 3 then 3 else 15) = true ∧ inI off 0 (bif kind == 3 then 31 else 0) = true ∧ (kind = 1 → data.length = 0) := by
  unfold errC entE at h
  cases h1 : inI kind 1 3 with
  | false => rw [h1] at h; exact absurd (show (7 : Int) = 0 from h) (by decide)
  | true =>
  cases h2 : inI slot 0 (bif kind == 3 then 3 else 15) with
  | false => rw [h1, h2] at h; exact absurd (show (9 : Int) = 0 from h) (by decide)
  | true =>
  cases h3 : inI off 0 (bif kind == 3 then 31 else 0) with
  | false => rw [h1, h2, h3] at h; exact absurd (show (9 : Int) = 0 from h) (by decide)
  | true =>
   refine ⟨rfl, rfl, fun hk => ?_⟩
   subst hk
   rw [h1, h2, h3] at h
   cases h4 : ((ds.length : Int) != 1) || decide ((data.length : Int) > 0) with
   | true => simp only [Bool.not_true, _root_.cond_false, Bool.or_self, beq_self_eq_true, _root_.cond_true, h4] at h; exact absurd h (by decide)
   | false => simp at h4; simp [h4.2]
 obtain ⟨n1, n2, n3⟩ := hin
 have m1 : 0 ≤ slot ∧ slot ≤ 15 := by cases hk : kind == 3 <;> rw [hk] at n1 <;> unfold inI at n1 <;> simp at n1 <;> omega
 have m2 : 0 ≤ off ∧ off ≤ 31 := by cases hk : kind == 3 <;> rw [hk] at n2 <;> unfold inI at n2 <;> simp at n2 <;> omega
 refine ⟨hE.k, m1, m2, fun hk => ⟨(hE.d hk).1, (defE_ok (hE.d hk).2).len⟩, ?_⟩
 by_cases hk : kind = 1
 ·rw [n3 hk]; omega
 ·have := hf (hE.n hk).1
  have sb := szL_bound this.size
  have := this.len
  by_cases hk3 : kind = 3
  ·have := (hE.h hk3).2.2.2.2; omega
  ·have := hE.t (by have := hE.k; omega); omega
/-- All slots have right definitions. -/
def OkA (a : Ab) : Prop := ∀ j, a.kn j = true → FldsOk (a.fs j)
theorem OkA.step {a : Ab} (h : OkA a) {x : D} (hx : errE a x = 0) : OkA (stepA a x) := by
 unfold stepA stepD
 cases hk : kX x == 1 with
 | true =>
  have hE := entE_ok hx
  have hf := defE_ok (hE.d (by simpa using hk)).2
  intro j hj
  simp only [_root_.cond_true, upA] at hj ⊢
  by_cases e : j = (sX x).toNat
  ·simp only [if_pos e]; exact hf
  ·simp only [if_neg e] at hj ⊢; exact h j hj
 | false => exact h
theorem OkA.start : OkA Ab.start := fun j hj => by simp [Ab.start] at hj
section
variable {es : List D}
end
end Go.Proofs.Ytnnofignhdijiaa

/-! Plain laws: slices.Concat; Write; what the law of files compares. -/
namespace Go.Proofs.Ytnnofignhdijiaa
open Go Go.AM
set_option maxRecDepth 100000
set_option maxHeartbeats 4000000
set_option linter.unusedVariables false
variable {N : Nat}
def catL : List D → List D
 | [] => []
 | x :: r => x.items ++ catL r
section
variable {ps : List D}
theorem catL_drop {w : Int} (h0 : 0 ≤ w) (h1 : w < ps.length) : (catL (ps.drop w.toNat)).length = (ps.getD w.toNat (.i 0)).items.length + (catL (ps.drop (w + 1).toNat)).length := by
 rw [drop_at (.i 0) h0 h1]; simp [catL]
theorem concat_eq (hN : maxLen < N) (hp : ps.length ≤ 1000) (hc : (catL ps).length ≤ 10000000000) : ∃ b, G66x0 N ps = some (b, catL ps) := by
 have hm : maxLen = 9223372036854775807 := rfl
 have k1 : G66x0x9 N ps ps.length 0 0 = some ((catL ps).length : Int) := by
  have key := loop_ind (A := Int × Int) (X := Option Int) (S := fun x kr => S66x0x9 N ps ps.length x.1 x.2 (fun a b => kr (a, b)) (fun p => some p)) (L := fun m x => L66x0x9 N ps ps.length m x.1 x.2 (fun p => some p)) (fun m x => rfl)
   (fun x => some (x.1 + ((catL (ps.drop x.2.toNat)).length : Int))) (fun x => 0 ≤ x.2 ∧ x.2 ≤ ps.length ∧ 0 ≤ x.1 ∧ x.1 + ((catL (ps.drop x.2.toNat)).length : Int) ≤ 10000000000) (fun x => (ps.length - x.2).toNat) ?_ N (0, 0) ⟨by decide, by show (0 : Int) ≤ _; omega, by decide, by simp; omega⟩ (by simp; omega)
  ·refine Eq.trans key ?_; simp
  ·rintro ⟨a, w⟩ kr ⟨h0, h1, h2, h3⟩ ih
   simp only at h0 h1 h2 h3 ih ⊢
   unfold S66x0x9
   by_cases hw : w < ps.length
   ·have := catL_drop h0 hw
    rw [decide_eq_true hw, inB_of h0 hw, wrapI (x := a + _) (by omega) (by omega), wrapI (x := w + 1) (by omega) (by omega)]
    simp only [_root_.cond_true, bnd_eq]
    rw [decide_eq_false (show ¬ a + ((ps.getD w.toNat (.i 0)).items.length : Int) < 0 by omega)]
    simp only [_root_.cond_false]
    rw [ih (_, w + 1) ⟨by simp only; omega, by simp only; omega, by simp only; omega, by simp only; omega⟩ (by simp only; omega)]
    simp only; congr 1; omega
   ·have : w = ps.length := by omega
    subst this
    rw [decide_eq_false hw, drop_end (by omega)]
    simp [catL]
 have k3 : ∀ b0 : Bool, ∃ b, G66x0x33 N ps ps.length 0 b0 [] = some (b, catL ps) := by
  intro b0
  have key := loop_indE (A := Int × Bool × LD) (X := Option (Bool × LD)) (S := fun x kr => S66x0x33 N ps ps.length x.1 x.2.1 x.2.2 (fun a b c => kr (a, b, c)) (fun p => some p)) (L := fun m x => L66x0x33 N ps ps.length m x.1 x.2.1 x.2.2 (fun p => some p)) (fun m x => rfl)
   (fun x r => ∃ b, r = some (b, x.2.2 ++ catL (ps.drop x.1.toNat))) (fun x => 0 ≤ x.1 ∧ x.1 ≤ ps.length ∧ (x.2.2.length : Int) + ((catL (ps.drop x.1.toNat)).length : Int) ≤ 10000000000) (fun x => (ps.length - x.1).toNat) ?_ N (0, b0, []) ⟨by show (0 : Int) ≤ 0; omega, by show (0 : Int) ≤ _; omega, by simp; omega⟩ (by simp; omega)
  ·obtain ⟨b, q⟩ := key; exact ⟨b, q⟩
  ·rintro ⟨w, b, acc⟩ kr ⟨h0, h1, h2⟩ ih
   simp only at h0 h1 h2 ih ⊢
   unfold S66x0x33
   by_cases hw : w < ps.length
   ·have := catL_drop h0 hw
    have r1 : decide ((acc.length + (ps.getD w.toNat (.i 0)).items.length) * 1 ≤ room) = true := decide_eq_true (by unfold room; omega)
    have r2 : decide (acc.length + (ps.getD w.toNat (.i 0)).items.length ≤ strMax) = true := decide_eq_true (by unfold strMax; omega)
    rw [decide_eq_true hw, inB_of h0 hw, r1, r2, wrapI (x := w + 1) (by omega) (by omega), drop_at (.i 0) h0 hw]
    simp only [_root_.cond_true, Bool.and_self]
    obtain ⟨b', q⟩ := ih (w + 1, (ps.getD w.toNat (.i 0)).items.isEmpty && b, acc ++ (ps.getD w.toNat (.i 0)).items) ⟨by simp only; omega, by simp only; omega, by simp only [List.length_append]; omega⟩ (by simp only; omega)
    exact ⟨b', q.trans (by simp [catL])⟩
   ·have : w = ps.length := by omega
    subst this
    rw [decide_eq_false hw, drop_end (by omega)]
    exact ⟨b, by simp [catL]⟩
 have k2 : ∃ r, G66x0x28 N ((catL ps).length : Int) = some r := by
  unfold G66x0x28 F66x0x28 G120x0 F120x0 G120x0x17 F120x0x17
  rw [decide_eq_false (show ¬ ((catL ps).length : Int) < 0 by omega), Int.sub_zero, wrapI (by omega) (by omega)]
  by_cases h0 : ((catL ps).length : Int) > 0
  ·have r1 : decide (((catL ps).length : Int).toNat * 1 ≤ room) = true := decide_eq_true (by unfold room; omega)
   have r2 : decide (((catL ps).length : Int).toNat ≤ strMax) = true := decide_eq_true (by unfold strMax; omega)
   rw [decide_eq_true h0, r1, r2, decide_eq_true (show (0 : Int) ≤ ((catL ps).length : Int) by omega), decide_eq_true (show (0 : Int) ≤ ((List.replicate ((catL ps).length : Int).toNat (D.i 0)).length : Int) by omega)]
   exact ⟨_, rfl⟩
  ·rw [decide_eq_false h0]
   exact ⟨_, rfl⟩
 obtain ⟨r, k2⟩ := k2
 unfold G66x0 F66x0
 rw [k1]
 simp only [bnd_eq, Option.isSome_some, _root_.cond_true, getD_some, k2]
 cases r with
 | inl b0 =>
  obtain ⟨b, q⟩ := k3 b0
  exact ⟨b, by simp [inlB, inlV, q]⟩
 | inr u =>
  obtain ⟨b, q⟩ := k3 true
  exact ⟨b, by simp [inlB, inrQ, q]⟩
end
theorem bt_ok (n i : Int) : 0 ≤ (bt n i).toI ∧ (bt n i).toI ≤ 255 := by
 unfold bt D.toI
 simp only [IntKind.wrap_u8]
 omega
theorem BytesOk.append {a b : List D} (h1 : BytesOk a) (h2 : BytesOk b) : BytesOk (a ++ b) := fun x hx => by
 rcases List.mem_append.1 hx with h | h
 ·exact h1 x h
 ·exact h2 x h
theorem BytesOk.cons {x : D} {b : List D} (h1 : 0 ≤ x.toI ∧ x.toI ≤ 255) (h2 : BytesOk b) : BytesOk (x :: b) := fun y hy => by
 rcases List.mem_cons.1 hy with rfl | h
 ·exact h1
 ·exact h2 y h
theorem BytesOk.nil : BytesOk [] := fun x hx => by simp at hx
theorem nb4_ok (n : Int) (big : Bool) : BytesOk (nb4 n big) := by
 cases big <;> exact .cons (bt_ok _ _) (.cons (bt_ok _ _) (.cons (bt_ok _ _) (.cons (bt_ok _ _) .nil)))
section
variable {es : List D}
end
end Go.Proofs.Ytnnofignhdijiaa

/-! Plain laws: the times, the places. -/
namespace Go.Proofs.Ytnnofignhdijiaa
open Go Go.AM
set_option maxRecDepth 100000
set_option maxHeartbeats 4000000
set_option linter.unusedVariables false
variable {N : Nat}
def timesD (a : Ab) (es : List D) : List D := (timesA a es).map .i
theorem timesD_cons {a : Ab} {x : D} {r : List D} : timesD a (x :: r) = .i (timeE a x) :: timesD (stepA a x) r := rfl
theorem timesD_len : ∀ {es : List D} {a : Ab}, (timesD a es).length = es.length
 | [], _ => rfl
 | x :: r, a => by rw [timesD_cons, List.length_cons, timesD_len, List.length_cons]
/-- What the reference keeps of an entry's definition. -/
def defOk (a : Ab) (x d : D) : Prop := (kX x = 1 → d.items = []) ∧ (kX x ≠ 1 → ∃ nl, d.items = [.a [.b (a.bg (sX x).toNat), .i (a.gl (sX x).toNat), .l nl (a.fs (sX x).toNat)]])
def PlL : Ab → List D → List D → Prop
 | _, [], [] => True
 | a, x :: r, d :: ds => defOk a x d ∧ PlL (stepA a x) r ds
 | _, _, _ => False
theorem PlL.len : ∀ {es ds : List D} {a : Ab}, PlL a es ds → ds.length = es.length
 | [], [], _, _ => rfl
 | x :: r, d :: ds, a, h => by simp [PlL.len h.2]
 | [], _ :: _, _, h => h.elim
 | _ :: _, [], _, h => h.elim
section
variable {es : List D}
theorem times_loopP (hN : maxLen < N) (hes : ∀ x ∈ es, EntD x) (hl : es.length ≤ 50000) : ∀ (m : Nat) (i : Int) (p s : D) (a : Ab) (b : Bool) (acc : List D), 0 ≤ i → i ≤ es.length → (es.length - i).toNat < m → Wk p s a i → errsA a (es.drop i.toNat) = 0 → (acc.length : Int) = i →
  ∃ b', L63x0x12 N es es.length m i b acc p (fun p => some p) = some (b', acc ++ timesD a (es.drop i.toNat)) := by
 intro m
 induction m with
 | zero => intro i p s a b acc _ _ h; omega
 | succ m ih =>
  intro i p s a b acc h0 h1 hm hw he ha
  unfold L63x0x12 S63x0x12
  by_cases hi : i < es.length
  ·have hx : EntD _ := hes _ (getD_mem (fs := es) h0 hi)
   rw [drop_at (.i 0) h0 hi] at he ⊢
   obtain ⟨e1, e2⟩ := errs_cons he
   obtain ⟨p', s', q1, q2, hw'⟩ := take_abs (N := N) hN hw hx h0 (by omega) e1
   have r1 : decide ((acc.length + 1) * 8 ≤ room) = true := decide_eq_true (by unfold room; omega)
   have r2 : decide (acc.length + 1 ≤ strMax) = true := decide_eq_true (by unfold strMax; omega)
   rw [decide_eq_true hi, inB_of h0 hi, q1]
   simp only [_root_.cond_true, bnd_eq, Option.isSome_some, getD_some, r1, r2, Bool.and_self, wrapI (x := i + 1) (by omega) (by omega)]
   obtain ⟨b', z⟩ := ih (i + 1) p' s' _ false (acc ++ [.i (timeE a (es.getD i.toNat (.i 0)))]) (by omega) (by omega) (by omega) hw' e2 (by simp; omega)
   exact ⟨b', z.trans (by simp [timesD_cons])⟩
  ·have : i = es.length := by omega
   subst this
   rw [decide_eq_false hi, drop_end (by omega)]
   exact ⟨b, by simp [timesD, timesA]⟩
theorem times_loopS (hN : maxLen < N) (hes : ∀ x ∈ es, EntD x) (hl : es.length ≤ 50000) : ∀ (m : Nat) (i : Int) (p s : D) (a : Ab) (b b1 : Bool) (acc acc1 : List D), 0 ≤ i → i ≤ es.length → (es.length - i).toNat < m → Wk p s a i → errsA a (es.drop i.toNat) = 0 → (acc.length : Int) = i → (acc1.length : Int) = i →
  ∃ b' b1' ds, L64x0x12 N es es.length m i s b1 acc1 b acc (fun p => some p) = some (b1', acc1 ++ ds, b', acc ++ timesD a (es.drop i.toNat)) ∧ PlL a (es.drop i.toNat) ds := by
 intro m
 induction m with
 | zero => intro i p s a b b1 acc acc1 _ _ h; omega
 | succ m ih =>
  intro i p s a b b1 acc acc1 h0 h1 hm hw he ha ha1
  unfold L64x0x12 S64x0x12
  by_cases hi : i < es.length
  ·have hx : EntD _ := hes _ (getD_mem (fs := es) h0 hi)
   rw [drop_at (.i 0) h0 hi] at he ⊢
   obtain ⟨e1, e2⟩ := errs_cons he
   obtain ⟨p', s', q1, q2, hw'⟩ := take_abs (N := N) hN hw hx h0 (by omega) e1
   have hE := entE_ok e1
   have r1 : decide ((acc.length + 1) * 8 ≤ room) = true := decide_eq_true (by unfold room; omega)
   have r2 : decide (acc.length + 1 ≤ strMax) = true := decide_eq_true (by unfold strMax; omega)
   have r3 : decide ((acc1.length + 1) * 24 ≤ room) = true := decide_eq_true (by unfold room; omega)
   have r4 : decide (acc1.length + 1 ≤ strMax) = true := decide_eq_true (by unfold strMax; omega)
   have h29 : ∃ y, G64x0x29 N (kX (es.getD i.toNat (.i 0)) != 1) (sX (es.getD i.toNat (.i 0))) s' = some y ∧ ∃ d, (y = .inr () ∧ d = .l true [] ∨ ∃ l, y = .inl l ∧ d = .l false l) ∧ defOk a (es.getD i.toNat (.i 0)) d := by
    unfold G64x0x29 F64x0x29
    by_cases hk : kX (es.getD i.toNat (.i 0)) = 1
    ·rw [hk]
     exact ⟨.inr (), rfl, .l true [], .inl ⟨rfl, rfl⟩, fun _ => rfl, fun h => absurd hk h⟩
    ·have hk' : (kX (es.getD i.toNat (.i 0)) != 1) = true := by simpa using hk
     rw [hk', hE.s.1]
     have hkn : (stepA a (es.getD i.toNat (.i 0))).kn (sX (es.getD i.toNat (.i 0))).toNat = true := by
      unfold stepA stepD
      have : (kX (es.getD i.toNat (.i 0)) == 1) = false := by simpa using hk
      rw [this]; exact (hE.n hk).1
     obtain ⟨d1, d2, d3⟩ := hw'.ss.df _ hE.s.2 hkn
     have hb : (stepA a (es.getD i.toNat (.i 0))).bg = a.bg ∧ (stepA a (es.getD i.toNat (.i 0))).gl = a.gl ∧ (stepA a (es.getD i.toNat (.i 0))).fs = a.fs := by
      unfold stepA stepD
      have : (kX (es.getD i.toNat (.i 0)) == 1) = false := by simpa using hk
      rw [this]; exact ⟨rfl, rfl, rfl⟩
     rw [hb.1] at d1
     rw [hb.2.1] at d2
     rw [hb.2.2] at d3
     refine ⟨.inl [.a [.b (s'.cell (16 + ((sX (es.getD i.toNat (.i 0))).toNat * 3))).toB, .i (s'.cell (17 + ((sX (es.getD i.toNat (.i 0))).toNat * 3))).toI, .l (s'.cell (18 + ((sX (es.getD i.toNat (.i 0))).toNat * 3))).isNil (s'.cell (18 + ((sX (es.getD i.toNat (.i 0))).toNat * 3))).items]], rfl, _, .inr ⟨_, rfl, rfl⟩, fun h => absurd h hk, fun _ => ⟨(s'.cell (18 + ((sX (es.getD i.toNat (.i 0))).toNat * 3))).isNil, ?_⟩⟩
     rw [d1, d2, d3]; rfl
   obtain ⟨y, y29, d, hd, hdok⟩ := h29
   rw [decide_eq_true hi, inB_of h0 hi, q2]
   simp only [_root_.cond_true, bnd_eq, Option.isSome_some, getD_some, r1, r2, r3, r4, Bool.and_self, y29, wrapI (x := i + 1) (by omega) (by omega)]
   obtain ⟨b', b1', ds, z, zp⟩ := ih (i + 1) p' s' _ false false (acc ++ [.i (timeE a (es.getD i.toNat (.i 0)))]) (acc1 ++ [d]) (by omega) (by omega) (by omega) hw' e2 (by simp; omega) (by simp; omega)
   refine ⟨b', b1', d :: ds, ?_, hdok, zp⟩
   rw [List.append_assoc, List.append_assoc] at z
   rw [timesD_cons]
   rcases hd with ⟨rfl, rfl⟩ | ⟨l, rfl, rfl⟩
   ·exact z
   ·exact z
  ·have : i = es.length := by omega
   subst this
   rw [decide_eq_false hi, drop_end (by omega)]
   exact ⟨b, b1, [], by simp [timesD, timesA], trivial⟩
theorem times_prog (hN : maxLen < N) (hes : ∀ x ∈ es, EntD x) (h : fileE es = 0) : ∃ b, G63x0 N es = some (b, timesD Ab.start es) := by
 have hm : maxLen = 9223372036854775807 := rfl
 obtain ⟨hl, he⟩ := fileE_ok h
 obtain ⟨b, z⟩ := times_loopP hN hes hl N 0 (V70x0 N) zeroS Ab.start true [] (by omega) (by omega) (by omega) start70 (by simpa using he) (by simp)
 have y1 : G63x0x12 N es es.length 0 true [] (V70x0 N) = some (b, timesD Ab.start es) := by unfold G63x0x12; simpa using z
 refine ⟨b, ?_⟩
 unfold G63x0 F63x0
 simp only [bnd_eq]
 rw [y1]; rfl
theorem places_ref (hN : maxLen < N) (hes : ∀ x ∈ es, EntD x) (h : fileE es = 0) : ∃ b b1 ds, G64x0 N es = some (b1, ds, b, timesD Ab.start es) ∧ PlL Ab.start es ds := by
 have hm : maxLen = 9223372036854775807 := rfl
 obtain ⟨hl, he⟩ := fileE_ok h
 obtain ⟨b, b1, ds, z, zp⟩ := times_loopS hN hes hl N 0 (V70x0 N) zeroS Ab.start true true [] [] (by omega) (by omega) (by omega) start70 (by simpa using he) (by simp) (by simp)
 have y1 : G64x0x12 N es es.length 0 zeroS true [] true [] = some (b1, ds, b, timesD Ab.start es) := by unfold G64x0x12; simpa using z
 refine ⟨b, b1, ds, ?_, by simpa using zp⟩
 have k2 : G64x0 N es = bnd (G64x0x12 N es es.length 0 zeroS true [] true []) fun y1 => bif y1.isSome then some (y1.getD default) else none := by unfold G64x0 F64x0; rfl
 rw [k2, y1]; rfl
/-- Times, as a plain function. -/
def timesR (es : List D) : List D := bif fileE es != 0 then [] else timesD Ab.start es
theorem times18 (hN : maxLen < N) (hes : ∀ x ∈ es, EntD x) : ∃ b, G18x0 N es = some (b, timesR es, fileE es) := by
 obtain ⟨c1, c2⟩ := check_fileA (N := N) hN hes
 unfold G18x0 F18x0 timesR
 rw [c1]
 simp only [bnd_eq, Option.isSome_some, _root_.cond_true, getD_some]
 cases hc : fileE es != 0 with
 | true => exact ⟨_, rfl⟩
 | false =>
  have hz : fileE es = 0 := by simpa using hc
  obtain ⟨b, q1⟩ := times_prog hN hes hz
  rw [q1, hz]
  exact ⟨_, rfl⟩
theorem timesR_len : (timesR es).length ≤ es.length := by
 unfold timesR
 cases fileE es != 0 with
 | true => exact Nat.zero_le _
 | false => simp only [_root_.cond_false, timesD_len]; exact Nat.le_refl _
end
/-! ### Rows of numbers, of bytes compared with themselves -/
theorem G24_refl {xs : List D} (hN : maxLen < N) (hl : xs.length ≤ maxLen) : G24x0 N xs xs = some true := by
 have k : G24x0x12 N xs xs xs.length 0 = some (.inr ()) := by
  refine refl_ind (S := fun w kr => S24x0x12 N xs xs xs.length w kr _ _) (L := fun m w => L24x0x12 N xs xs xs.length m w _ _) (fun m w => rfl) hl (fun kr => by simp [S24x0x12]) (fun w kr h1 h2 h3 => ?_) hN
  unfold S24x0x12
  rw [h1, h2]
  simp [bnd_eq]
 unfold G24x0 F24x0
 rw [len_self, k]; rfl
end Go.Proofs.Ytnnofignhdijiaa

/-! Plain laws: entries with the same content. -/
namespace Go.Proofs.Ytnnofignhdijiaa
open Go Go.AM
set_option maxRecDepth 100000
set_option maxHeartbeats 4000000
set_option linter.unusedVariables false
variable {N : Nat}
def nDef (d : D) : D := .a [.b (d.cell 0).toB, .i (d.cell 1).toI, .l false (d.cell 2).items]
/-- The same content (nil slices apart). -/
structure EqE (x y : D) : Prop where
 k : kX x = kX y
 s : sX x = sX y
 o : oX x = oX y
 d : (dX x).map nDef = (dX y).map nDef
 b : bX x = bX y
theorem EqE.refl (x : D) : EqE x x := ⟨rfl, rfl, rfl, rfl, rfl⟩
theorem EqE.symm {x y : D} (h : EqE x y) : EqE y x := ⟨h.k.symm, h.s.symm, h.o.symm, h.d.symm, h.b.symm⟩
theorem nDef_inj {d d' : D} (h : nDef d = nDef d') : (d.cell 0).toB = (d'.cell 0).toB ∧ (d.cell 1).toI = (d'.cell 1).toI ∧ (d.cell 2).items = (d'.cell 2).items := by
 unfold nDef at h
 simp only [D.a.injEq, List.cons.injEq, D.b.injEq, D.i.injEq, D.l.injEq, and_true, true_and] at h
 exact h
theorem defs_eq {ds ds' : List D} (h : ds.map nDef = ds'.map nDef) : ds.length = ds'.length ∧ ((ds.getD 0 (.i 0)).cell 0).toB = ((ds'.getD 0 (.i 0)).cell 0).toB ∧ ((ds.getD 0 (.i 0)).cell 1).toI = ((ds'.getD 0 (.i 0)).cell 1).toI ∧ ((ds.getD 0 (.i 0)).cell 2).items = ((ds'.getD 0 (.i 0)).cell 2).items := by
 have hl : ds.length = ds'.length := by have := congrArg List.length h; simpa using this
 refine ⟨hl, ?_⟩
 match ds, ds', h, hl with
 | [], [], _, _ => exact ⟨rfl, rfl, rfl⟩
 | d :: _, d' :: _, h, _ =>
  simp only [List.map_cons, List.cons.injEq] at h
  exact nDef_inj h.1
 | [], _ :: _, _, hl => simp at hl
 | _ :: _, [], _, hl => simp at hl
theorem EqE.err {x y : D} (h : EqE x y) (a : Ab) : errE a x = errE a y := by
 obtain ⟨l, d0, d1, d2⟩ := defs_eq h.d
 unfold errE errC entE
 rw [h.k, h.s, h.o, h.b, l, d1, d2]
theorem EqE.time {x y : D} (h : EqE x y) (a : Ab) : timeE a x = timeE a y := by
 unfold timeE
 rw [h.k, h.s, h.o, h.b]
theorem EqE.step {x y : D} (h : EqE x y) (a : Ab) : stepA a x = stepA a y := by
 obtain ⟨l, d0, d1, d2⟩ := defs_eq h.d
 unfold stepA stepD
 rw [h.k, h.s, h.o, h.b, d0, d1, d2]
theorem All2.errs {xs ys : List D} (h : All2 EqE xs ys) (a : Ab) : errsA a xs = errsA a ys := by
 induction xs generalizing ys a with
 | nil => cases ys with
  | nil => rfl
  | cons => exact h.elim
 | cons x xs ih => cases ys with
  | nil => exact h.elim
  | cons y ys => simp only [errsA]; rw [h.1.err, h.1.step, ih h.2]
theorem All2.timesD {xs ys : List D} (h : All2 EqE xs ys) (a : Ab) : Proofs.Ytnnofignhdijiaa.timesD a xs = Proofs.Ytnnofignhdijiaa.timesD a ys := by
 induction xs generalizing ys a with
 | nil => cases ys with
  | nil => rfl
  | cons => exact h.elim
 | cons x xs ih => cases ys with
  | nil => exact h.elim
  | cons y ys => rw [timesD_cons, timesD_cons, h.1.time, h.1.step, ih h.2]
theorem All2.fileE {xs ys : List D} (h : All2 EqE xs ys) : Proofs.Ytnnofignhdijiaa.fileE xs = Proofs.Ytnnofignhdijiaa.fileE ys := by
 unfold Proofs.Ytnnofignhdijiaa.fileE
 rw [AM.All2.length h, All2.errs h]
/-! ### The law's comparison -/
theorem zipAll_true2 : ∀ {xs ys : List D}, xs.length = ys.length → zipAll (fun _ _ => true) xs ys = true
 | [], [], _ => rfl
 | x :: r, y :: s, h => by simp only [zipAll, Bool.true_and]; exact zipAll_true2 (by simpa using h)
 | [], _ :: _, h => by simp at h
 | _ :: _, [], h => by simp at h
theorem getD_all2 {R : D → D → Prop} {xs ys : List D} (h : All2 R xs ys) {w : Int} (hw : inB w xs.length = true) : R (xs.getD w.toNat (.i 0)) (ys.getD w.toNat (.i 0)) := by
 unfold inB at hw
 simp at hw
 have hl := AM.All2.length h
 have h1 : w.toNat < xs.length := by omega
 rw [List.getD_eq_getElem?_getD, List.getD_eq_getElem?_getD, List.getElem?_eq_getElem h1, List.getElem?_eq_getElem (by omega : w.toNat < ys.length)]
 exact h.get2 (List.getElem?_eq_getElem h1) (List.getElem?_eq_getElem _)
theorem same_ind {R : D → D → Prop} {xs ys : List D} (hr : All2 R xs ys) {S : Int → (Int → Option (Sum Unit Unit)) → Option (Sum Unit Unit)} {L : Nat → Int → Option (Sum Unit Unit)} (hL : ∀ m a, L (m + 1) a = S a (L m)) (hlen : xs.length ≤ maxLen)
  (hend : ∀ kr, S xs.length kr = some (.inr ()))
  (hstep : ∀ (w : Int) (kr : Int → Option (Sum Unit Unit)), decide (w < xs.length) = true → inB w xs.length = true → inB w ys.length = true → xs.getD w.toNat (.i 0) ∈ xs → R (xs.getD w.toNat (.i 0)) (ys.getD w.toNat (.i 0)) → S w kr = kr (IntKind.wrap .i64 (w + 1)))
  (hN : maxLen < N) : L N 0 = some (.inr ()) := by
 have := zip_ind (xs := xs) (ys := ys) (fun _ _ => true) hL hlen (AM.All2.length hr) hend (fun w kr h1 h2 h3 => by rw [hstep w kr h1 h2 h3 (inB_mem h2) (getD_all2 hr h2)]; rfl) hN
 rw [this, zipAll_true2 (AM.All2.length hr)]
 rfl
theorem map_all2 {xs ys : List D} (h : xs.map nDef = ys.map nDef) : All2 (fun d d' => nDef d = nDef d') xs ys := by
 have hl : xs.length = ys.length := by have := congrArg List.length h; simpa using this
 refine .of_get hl fun j x y hx hy => ?_
 have := congrArg (fun l => l[j]?) h
 simp only [List.getElem?_map, hx, hy, Option.map_some, Option.some.injEq] at this
 exact this
section
variable {xs ys : List D}
theorem G103_same (hN : maxLen < N) (h : xs.map nDef = ys.map nDef) (hl : xs.length ≤ maxLen) (hf : ∀ x ∈ xs, (x.cell 2).items.length ≤ maxLen) : G103x0 N xs ys = some true := by
 have hle : xs.length = ys.length := by have := congrArg List.length h; simpa using this
 have k : G103x0x12 N ys xs xs.length 0 = some (.inr ()) := by
  refine same_ind (map_all2 h) (S := fun w kr => S103x0x12 N ys xs xs.length w kr _ _) (L := fun m w => L103x0x12 N ys xs xs.length m w _ _) (fun m w => rfl) hl (fun kr => by simp [S103x0x12]) (fun w kr h1 h2 h3 h4 h5 => ?_) hN
  obtain ⟨e0, e1, e2⟩ := nDef_inj h5
  unfold S103x0x12
  rw [h1, h2, h3, ← e0, ← e1, ← e2, G104_refl hN (hf _ h4)]
  simp [bnd_eq]
 unfold G103x0 F103x0
 rw [← hle, len_self, k]; rfl
theorem G48_same (hN : maxLen < N) {x y : D} (h : EqE x y) (he : EntD x) : G48x0 N (kX x) (sX x) (oX x) (dX x) (bX x) (kX y) (sX y) (oX y) (dX y) (bX y) = some true := by
 unfold G48x0 F48x0 G48x0x4 F48x0x4
 rw [← h.k, ← h.s, ← h.o, ← h.b, G103_same hN h.d he.d he.f, G25_refl hN he.b]
 simp [bnd_eq]
theorem G28_same (hN : maxLen < N) (h : All2 EqE xs ys) (he : ∀ x ∈ xs, EntD x) (hl : xs.length ≤ maxLen) : G28x0 N xs ys = some true := by
 have hle := AM.All2.length h
 have k : G77x0x12 N ys xs xs.length 0 = some (.inr ()) := by
  refine same_ind h (S := fun w kr => S77x0x12 N ys xs xs.length w kr _ _) (L := fun m w => L77x0x12 N ys xs xs.length m w _ _) (fun m w => rfl) hl (fun kr => by simp [S77x0x12]) (fun w kr h1 h2 h3 h4 h5 => ?_) hN
  unfold S77x0x12
  rw [h1, h2, h3, G48_same hN h5 (he _ h4)]
  simp [bnd_eq]
 unfold G28x0 F28x0 G77x0 F77x0
 rw [← hle, len_self, k]; rfl
end
end Go.Proofs.Ytnnofignhdijiaa

/-! Plain laws: a law's file, typed. -/
namespace Go.Proofs.Ytnnofignhdijiaa
open Go Go.AM
set_option maxRecDepth 100000
set_option maxHeartbeats 4000000
set_option linter.unusedVariables false
theorem kinds33 : kinds Try.prog 33 = [.sl 53] := by kernel_rfl
theorem kinds53 : kinds Try.prog 53 = [.int .i64, .int .i64, .int .i64, .sl 103, .sl 5] := by kernel_rfl
theorem kinds103 : kinds Try.prog 103 = [.bool, .int .i64, .sl 146] := by kernel_rfl
theorem kinds146 : kinds Try.prog 146 = [.int .i64, .int .i64, .int .i64] := by kernel_rfl
theorem kinds5' : kinds Try.prog 5 = [.int .u8] := by kernel_rfl
/-- An int of 64 bits. -/
def In64 (i : Int) : Prop := -9223372036854775808 ≤ i ∧ i ≤ 9223372036854775807
/-- A field's definition. -/
def FldT (f : D) : Prop := ∃ a b c, f = .a [.i a, .i b, .i c] ∧ In64 a ∧ In64 b ∧ In64 c
def DefT (d : D) : Prop := ∃ big g nl fs, d = .a [.b big, .i g, .l nl fs] ∧ In64 g ∧ (nl = true → fs = []) ∧ fs.length ≤ maxLen ∧ ∀ f ∈ fs, FldT f
def ByteT (x : D) : Prop := ∃ n, x = .i n ∧ 0 ≤ n ∧ n ≤ 255
def EntT (x : D) : Prop := ∃ kind slot off dn ds bn data, x = .a [.i kind, .i slot, .i off, .l dn ds, .l bn data] ∧ In64 kind ∧ In64 slot ∧ In64 off ∧ (dn = true → ds = []) ∧ (bn = true → data = []) ∧ ds.length ≤ maxLen ∧ data.length ≤ maxLen ∧ (∀ d ∈ ds, DefT d) ∧ ∀ y ∈ data, ByteT y
theorem wf64 {i : Int} (h : (Lit.int .i64 i).wf = true) : In64 i := by
 simp only [Lit.wf, Bool.and_eq_true, decide_eq_true_eq] at h
 exact h
theorem byteT_ok {m : Nat} {x : D} (h : TyEl Try.prog (TyK Try.prog (m + 1)) 5 x) : ByteT x := by
 unfold TyEl at h
 have : isAggB Try.prog 5 = false := by kernel_rfl
 rw [if_neg (by rw [this]; simp), kinds5'] at h
 obtain ⟨k, hk, h⟩ := h
 simp only [List.cons.injEq, and_true] at hk
 subst hk
 obtain ⟨i, rfl, hl⟩ := h
 simp only [Lit.wf, Bool.and_eq_true, decide_eq_true_eq] at hl
 exact ⟨i, rfl, hl⟩
theorem fldT_ok {m : Nat} {x : D} (h : TyEl Try.prog (TyK Try.prog (m + 1)) 146 x) : FldT x := by
 unfold TyEl at h
 have : isAggB Try.prog 146 = true := by kernel_rfl
 rw [if_pos this, kinds146] at h
 obtain ⟨cs, rfl, hc⟩ := h
 obtain ⟨_, _, rfl, h0, hc⟩ := all2_cons hc
 obtain ⟨_, _, rfl, h1, hc⟩ := all2_cons hc
 obtain ⟨_, _, rfl, h2, hc⟩ := all2_cons hc
 obtain rfl := all2_nil hc
 obtain ⟨a, rfl, ha⟩ := ty_int h0
 obtain ⟨b, rfl, hb⟩ := ty_int h1
 obtain ⟨c, rfl, hc9⟩ := ty_int h2
 exact ⟨a, b, c, rfl, wf64 ha, wf64 hb, wf64 hc9⟩
theorem defT_ok {m : Nat} {x : D} (h : TyEl Try.prog (TyK Try.prog (m + 2)) 103 x) : DefT x := by
 unfold TyEl at h
 have : isAggB Try.prog 103 = true := by kernel_rfl
 rw [if_pos this, kinds103] at h
 obtain ⟨cs, rfl, hc⟩ := h
 obtain ⟨_, _, rfl, h0, hc⟩ := all2_cons hc
 obtain ⟨_, _, rfl, h1, hc⟩ := all2_cons hc
 obtain ⟨_, _, rfl, h2, hc⟩ := all2_cons hc
 obtain rfl := all2_nil hc
 obtain ⟨b, rfl⟩ := ty_bool h0
 obtain ⟨g, rfl, hg⟩ := ty_int h1
 obtain ⟨nl, fs, rfl, n1, n2, n3⟩ := ty_sl h2
 exact ⟨b, g, nl, fs, rfl, wf64 hg, n1, n2, fun f hf => fldT_ok (n3 f hf)⟩
theorem entT_ok {m : Nat} {x : D} (h : TyEl Try.prog (TyK Try.prog (m + 3)) 53 x) : EntT x := by
 unfold TyEl at h
 have : isAggB Try.prog 53 = true := by kernel_rfl
 rw [if_pos this, kinds53] at h
 obtain ⟨cs, rfl, hc⟩ := h
 obtain ⟨_, _, rfl, h0, hc⟩ := all2_cons hc
 obtain ⟨_, _, rfl, h1, hc⟩ := all2_cons hc
 obtain ⟨_, _, rfl, h2, hc⟩ := all2_cons hc
 obtain ⟨_, _, rfl, h3, hc⟩ := all2_cons hc
 obtain ⟨_, _, rfl, h4, hc⟩ := all2_cons hc
 obtain rfl := all2_nil hc
 obtain ⟨a, rfl, ha⟩ := ty_int h0
 obtain ⟨b, rfl, hb⟩ := ty_int h1
 obtain ⟨c, rfl, hc9⟩ := ty_int h2
 obtain ⟨dn, ds, rfl, n1, n2, n3⟩ := ty_sl h3
 obtain ⟨bn, data, rfl, m1, m2, m3⟩ := ty_sl h4
 exact ⟨a, b, c, dn, ds, bn, data, rfl, wf64 ha, wf64 hb, wf64 hc9, n1, m1, n2, m2, fun d hd => defT_ok (n3 d hd), fun y hy => byteT_ok (m3 y hy)⟩
theorem EntT.entD {x : D} (h : EntT x) : EntD x := by
 obtain ⟨a, b, c, dn, ds, bn, data, rfl, _, _, _, n1, m1, n2, m2, n3, m3⟩ := h
 refine ⟨n2, m2, fun d hd => ?_, fun y hy => ?_⟩
 ·obtain ⟨big, g, nl, fs, rfl, _, _, hl, _⟩ := n3 d hd
  exact hl
 ·obtain ⟨n, rfl, h0, h1⟩ := m3 y hy
  exact ⟨h0, h1⟩
theorem arg33 {ds : List D} (h : ArgOk Try.prog 6 33 ds) : ∃ nl es, ds = [.l nl es] ∧ (nl = true → es = []) ∧ es.length ≤ maxLen ∧ ∀ x ∈ es, EntT x := by
 unfold ArgOk at h
 rw [kinds33] at h
 obtain ⟨_, _, rfl, h0, h⟩ := all2_cons h
 obtain rfl := all2_nil h
 obtain ⟨nl, es, rfl, h1, h2, h3⟩ := ty_sl (m := 5) h0
 exact ⟨nl, es, rfl, h1, h2, fun x hx => entT_ok (h3 x hx)⟩
theorem kinds3' : kinds Try.prog 3 = [.int .i64] := by kernel_rfl
theorem arg3 {ds : List D} (h : ArgOk Try.prog 6 3 ds) : ∃ n, ds = [.i n] ∧ In64 n := by
 unfold ArgOk at h
 rw [kinds3'] at h
 obtain ⟨_, _, rfl, h0, h⟩ := all2_cons h
 obtain rfl := all2_nil h
 obtain ⟨n, rfl, hn⟩ := ty_int (m := 5) h0
 exact ⟨n, rfl, wf64 hn⟩
end Go.Proofs.Ytnnofignhdijiaa

/-! Plain laws: an entry's copy; a row of numbers in order; a search in it. -/
namespace Go.Proofs.Ytnnofignhdijiaa
open Go Go.AM
set_option maxRecDepth 100000
set_option maxHeartbeats 4000000
set_option linter.unusedVariables false
variable {N : Nat}
theorem clone_ent (hN : maxLen < N) {dn bn : Bool} {ds data : List D} (h1 : dn = true → ds = []) (h2 : bn = true → data = []) (h3 : ds.length ≤ 1) (h4 : data.length ≤ 65025) (h5 : ∀ d ∈ ds, DefT d) (h6 : ∀ d ∈ ds, (d.cell 2).items.length ≤ 255) :
  ∃ n1 ds' n2, G76x0 N dn ds bn data = some (n1, ds', n2, data) ∧ ds'.map nDef = ds.map nDef ∧ (n1 = true → ds' = []) ∧ (n2 = true → data = []) := by
 have e2 : ∃ n2, G129x0 N bn data = some (n2, data) ∧ (n2 = true → data = []) := by
  cases bn with
  | true => rw [h2 rfl]; exact ⟨true, rfl, fun _ => rfl⟩
  | false => exact ⟨false, clone_no (by omega), fun h => by cases h⟩
 obtain ⟨n2, q2, hn2⟩ := e2
 obtain ⟨k, rfl⟩ := fuel hN 8 (by omega)
 unfold G76x0 F76x0
 rw [q2]
 match ds, h1, h3, h5, h6 with
 | [], h1, _, _, _ =>
  cases dn with
  | true => exact ⟨true, [], n2, rfl, rfl, fun _ => rfl, hn2⟩
  | false => exact ⟨false, [], n2, by kernel_rfl, rfl, fun _ => rfl, hn2⟩
 | [d], h1, _, h5, h6 =>
  have hdn : dn = false := by
   cases dn with
   | false => rfl
   | true => simp at h1
  subst hdn
  obtain ⟨big, g, nl, fs, rfl, _, hnl, hfl, _⟩ := h5 d (by simp)
  have hl : fs.length ≤ 255 := h6 (.a [.b big, .i g, .l nl fs]) (by simp)
  have r1 : decide ((0 + fs.length) * 24 ≤ room) = true := decide_eq_true (by unfold room; omega)
  have r2 : decide (0 + fs.length ≤ strMax) = true := decide_eq_true (by unfold strMax; omega)
  have e12 : ∃ nl', G76x0x12 (k + 8) 1 0 [D.a [.b big, .i g, .l nl fs]] = some [D.a [.b big, .i g, .l nl' fs]] := by
   cases nl with
   | true =>
    rw [hnl rfl]
    exact ⟨true, by kernel_rfl⟩
   | false =>
    have e131 : G131x0 (k + 8) false fs = some (.inr false) := by
     unfold G131x0 F131x0
     rw [r1, r2]
     simp
    refine ⟨false, ?_⟩
    have e19 : G76x0x19 (k + 8) 0 [D.a [.b big, .i g, .l false fs]] = some [D.a [.b big, .i g, .l false fs]] := by
     have d2 : ((([D.a [.b big, .i g, .l false fs]] : List D).getD (0 : Int).toNat (.i 0)).cell 2).items = fs := rfl
     have d3 : ((([D.a [.b big, .i g, .l false fs]] : List D).getD (0 : Int).toNat (.i 0)).cell 2).isNil = false := rfl
     unfold G76x0x19 F76x0x19
     rw [d2, d3, e131]
     rfl
    have : G76x0x12 (k + 8) 1 0 [D.a [.b big, .i g, .l false fs]] = bnd (G76x0x19 (k + 8) 0 [D.a [.b big, .i g, .l false fs]]) fun y0 => bif y0.isSome then some (y0.getD default) else none := by kernel_rfl
    rw [this, e19]
    rfl
  obtain ⟨nl', e12⟩ := e12
  have e7 : G76x0x7 (k + 8) false [D.a [.b big, .i g, .l nl fs]] = some (.inr false) := by kernel_rfl
  have el : (([D.a [.b big, .i g, .l nl fs]] : List D).length : Int) = 1 := rfl
  rw [e7, el]
  simp only [bnd_eq, Option.isSome_some, getD_some, _root_.cond_true]
  have i7 : inlB (some (Sum.inr false : Sum Unit Bool)) = false := rfl
  rw [i7]
  simp only [_root_.cond_false]
  have i8 : (inrQ (some (Sum.inr false : Sum Unit Bool))).isSome = true := rfl
  rw [i8, e12]
  exact ⟨false, _, n2, rfl, rfl, fun h => by simp at h, hn2⟩
/-! ### Numbers in order -/
/-- In order, from 0 to n - 1. -/
structure Asc (l : List D) (n : Int) : Prop where
 lo : ∀ i : Int, 0 ≤ i → i < l.length → 0 ≤ by_ l i ∧ by_ l i ≤ n - 1
 up : ∀ i j : Int, 0 ≤ i → i < j → j < l.length → by_ l i < by_ l j
theorem Asc.ge {l : List D} {n : Int} (h : Asc l n) : ∀ i : Nat, i < l.length → (i : Int) ≤ by_ l i
 | 0, hi => (h.lo 0 (by omega) (by omega)).1
 | i + 1, hi => by
  have h1 := Asc.ge h i (by omega)
  have h2 := h.up i (i + 1) (by omega) (by omega) (by omega)
  have : ((i + 1 : Nat) : Int) = (i : Int) + 1 := by omega
  rw [this]
  omega
theorem Asc.len {l : List D} {n : Int} (h : Asc l n) (hn : 0 ≤ n) : (l.length : Int) ≤ n := by
 rcases Nat.eq_zero_or_pos l.length with h0 | h0
 ·omega
 ·have h1 := h.ge (l.length - 1) (by omega)
  have h2 := (h.lo ((l.length - 1 : Nat) : Int) (by omega) (by omega)).2
  omega
end Go.Proofs.Ytnnofignhdijiaa

/-! Plain laws: Without. -/
namespace Go.Proofs.Ytnnofignhdijiaa
open Go Go.AM
set_option maxRecDepth 100000
set_option maxHeartbeats 4000000
set_option linter.unusedVariables false
variable {N : Nat}
section
variable {l es : List D}
/-- The program's and the reference's lists behind some rounds. -/
structure Two (xs ys : List D) (n : Int) : Prop where
 eq : All2 EqE xs ys
 ok : ∀ x ∈ xs, EntD x
 ok' : ∀ y ∈ ys, EntD y
 len : (xs.length : Int) ≤ n
theorem all2_snoc {R : D → D → Prop} {xs ys : List D} {x y : D} (h : All2 R xs ys) (h1 : R x y) : All2 R (xs ++ [x]) (ys ++ [y]) := h.append ⟨h1, trivial⟩
theorem err_at {es : List D} : ∀ {a : Ab} {i : Nat}, OkA a → errsA a es = 0 → i < es.length → ∃ a', OkA a' ∧ errE a' (es.getD i (.i 0)) = 0 := by
 induction es with
 | nil => intro a i _ _ hi; simp at hi
 | cons x r ih =>
  intro a i ha he hi
  obtain ⟨e1, e2⟩ := errs_cons he
  cases i with
  | zero => exact ⟨a, ha, e1⟩
  | succ i => exact ih (ha.step e1) e2 (by simpa using hi)
end
end Go.Proofs.Ytnnofignhdijiaa

/-! Plain laws: Find; a number's bytes. -/
namespace Go.Proofs.Ytnnofignhdijiaa
open Go Go.AM
set_option maxRecDepth 100000
set_option maxHeartbeats 4000000
set_option linter.unusedVariables false
variable {N : Nat}
theorem not1 {k : Int} (h : k ≠ 1) : (k == 1) = false ∧ (k != 1) = true := by
 constructor <;> simpa using h
theorem step_data {a : Ab} {x : D} (h : kX x ≠ 1) : (stepA a x).kn = a.kn ∧ (stepA a x).bg = a.bg ∧ (stepA a x).gl = a.gl ∧ (stepA a x).fs = a.fs ∧ (stepA a x).last = bif decide (timeE a x ≥ 0) then timeE a x else a.last := by
 unfold stepA stepD
 rw [(not1 h).1]
 exact ⟨rfl, rfl, rfl, rfl, rfl⟩
/-- What the reference kept of the entry at a place. -/
theorem PlL.at_ {a : Ab} {es ds : List D} {x : D} (h : PlL a (x :: es) ds) : ∃ d r, ds = d :: r ∧ defOk a x d ∧ PlL (stepA a x) es r := by
 cases ds with
 | nil => exact h.elim
 | cons d r => exact ⟨d, r, rfl, h.1, h.2⟩
theorem getD_drop {l r : List D} {d : D} {w : Int} (h0 : 0 ≤ w) (h : l.drop w.toNat = d :: r) : l.getD w.toNat (.i 0) = d ∧ l.drop (w + 1).toNat = r ∧ w < l.length := by
 have hl : w < l.length := by
  refine Classical.byContradiction fun hh => ?_
  rw [List.drop_eq_nil_of_le (by omega)] at h
  simp at h
 rw [drop_at (.i 0) h0 hl] at h
 simp only [List.cons.injEq] at h
 exact ⟨h.1, h.2, hl⟩
section
variable {es : List D}
theorem find_loop (hN : maxLen < N) (hes : ∀ x ∈ es, EntD x) (hl : es.length ≤ 50000) {ds : List D} (hds : ds.length = es.length) (g : Int) : ∀ (m : Nat) (i : Int) (p s : D) (a : Ab) (b b1 : Bool) (acc : List D), 0 ≤ i → i ≤ es.length → (es.length - i).toNat < m → Wk p s a i → errsA a (es.drop i.toNat) = 0 → PlL a (es.drop i.toNat) (ds.drop i.toNat) → (acc.length : Int) ≤ i →
  ∃ b' b1' l, L29x0x27 N g es es.length m i b acc p (fun p => some p) = some (b', l) ∧ L30x0x24 N g ds ds.length m i b1 acc (fun p => some p) = some (b1', l) ∧ l.length ≤ es.length := by
 have hm : maxLen = 9223372036854775807 := rfl
 intro m
 induction m with
 | zero => intro i p s a b b1 acc _ _ h; omega
 | succ m ih =>
  intro i p s a b b1 acc h0 h1 hmm hw he hp ha
  unfold L29x0x27 L30x0x24 S29x0x27 S30x0x24
  rw [hds]
  by_cases hi : i < es.length
  ·have hx : EntD _ := hes _ (getD_mem (fs := es) h0 hi)
   rw [drop_at (.i 0) h0 hi] at he hp
   obtain ⟨e1, e2⟩ := errs_cons he
   obtain ⟨p', s', q1, q2, hw'⟩ := take_abs (N := N) hN hw hx h0 (by omega) e1
   obtain ⟨d, dr, dd, dok, dp⟩ := hp.at_
   obtain ⟨dg, ddr, _⟩ := getD_drop h0 dd
   rw [← ddr] at dp
   have hE := entE_ok e1
   have r1 : decide ((acc.length + 1) * 8 ≤ room) = true := decide_eq_true (by unfold room; omega)
   have r2 : decide (acc.length + 1 ≤ strMax) = true := decide_eq_true (by unfold strMax; omega)
   have hc : ∃ c, G29x0x37 N g (kX (es.getD i.toNat (.i 0))) (sX (es.getD i.toNat (.i 0))) p' = some c ∧ (bif inB 0 d.items.length then true else !(decide ((d.items.length : Int) > 0) == true)) = true ∧
     (bif decide ((d.items.length : Int) > 0) then (((d.items.getD 0 (.i 0)).cell 1).toI == g) else false) = c := by
    unfold G29x0x37 F29x0x37
    by_cases hk : kX (es.getD i.toNat (.i 0)) = 1
    ·rw [hk, dok.1 hk]
     exact ⟨false, rfl, rfl, rfl⟩
    ·obtain ⟨nl, hd⟩ := dok.2 hk
     rw [(not1 hk).2, hE.s.1, hd]
     obtain ⟨s1, s2, s3, s4, s5⟩ := step_data (a := a) hk
     have hkn : (stepA a (es.getD i.toNat (.i 0))).kn (sX (es.getD i.toNat (.i 0))).toNat = true := by rw [s1]; exact (hE.n hk).1
     obtain ⟨_, _, g3, _⟩ := hw'.pp.df _ hE.s.2 hkn
     refine ⟨_, rfl, rfl, ?_⟩
     show (a.gl (sX (es.getD i.toNat (.i 0))).toNat == g) = _
     rw [g3]
     unfold stepA at s3
     rw [s3]
   obtain ⟨c, c1, c2, c3⟩ := hc
   rw [decide_eq_true hi, inB_of h0 hi, q1, dg]
   simp only [_root_.cond_true, bnd_eq, Option.isSome_some, getD_some, c1, c2, c3]
   unfold G29x0x41 F29x0x41 G30x0x35 F30x0x35
   rw [r1, r2, wrapI (x := i + 1) (by omega) (by omega)]
   rw [hds] at ih
   cases c with
   | true => exact ih (i + 1) p' s' _ false false (acc ++ [.i i]) (by omega) (by omega) (by omega) hw' e2 dp (by simp; omega)
   | false => exact ih (i + 1) p' s' _ b b1 acc (by omega) (by omega) (by omega) hw' e2 dp (by omega)
  ·have : i = es.length := by omega
   subst this
   rw [decide_eq_false hi]
   exact ⟨b, b1, acc, rfl, rfl, by omega⟩
theorem find_eq (hN : maxLen < N) (hes : ∀ x ∈ es, EntD x) (g : Int) : ∃ b b' l c, G29x0 N es g = some (b, l, c) ∧ G30x0 N es g = some (b', l, c) ∧ l.length ≤ es.length := by
 have hm : maxLen = 9223372036854775807 := rfl
 obtain ⟨c1, c2⟩ := check_fileA (N := N) hN hes
 unfold G29x0 F29x0 G30x0 F30x0
 rw [c1, c2, V52x0_eq, V57x0_eq]
 simp only [bnd_eq, Option.isSome_some, _root_.cond_true, getD_some]
 cases hc : fileE es != 0 with
 | true => exact ⟨_, _, [], _, rfl, rfl, Nat.zero_le _⟩
 | false =>
 have hz : fileE es = 0 := by simpa using hc
 obtain ⟨hl, he⟩ := fileE_ok hz
 cases inI g 0 65535 with
 | false => exact ⟨_, _, [], _, rfl, rfl, Nat.zero_le _⟩
 | true =>
  obtain ⟨b, b1, ds, q2, hp⟩ := places_ref (N := N) hN hes hz
  obtain ⟨x1, x2, l, z1, z2, z3⟩ := find_loop (N := N) hN hes hl hp.len g N 0 (V70x0 N) zeroS Ab.start true true [] (by omega) (by omega) (by omega) start70 (by simpa using he) (by simpa using hp) (by simp)
  have y1 : G29x0x27 N g es es.length 0 true [] (V70x0 N) = some (x1, l) := z1
  have y2 : G30x0x24 N g ds ds.length 0 true [] = some (x2, l) := z2
  rw [q2]
  simp only [Bool.not_true, _root_.cond_false, Option.isSome_some, getD_some, _root_.cond_true, y1, y2]
  exact ⟨_, _, l, 0, rfl, rfl, z3⟩
end
/-! ### A number, its bytes, and the number again -/
theorem bt_at {n : Int} (h0 : 0 ≤ n) (h1 : n < 4294967296) : (bt n 0).toI = n % 256 ∧ (bt n 1).toI = n / 256 % 256 ∧ (bt n 2).toI = n / 65536 % 256 ∧ (bt n 3).toI = n / 16777216 % 256 := by
 have e : ∀ k : Nat, (n.fdiv (2 ^ k)) = n / 2 ^ k := fun k => Int.fdiv_eq_ediv_of_nonneg _ (by exact Int.le_of_lt (Int.pow_pos (by decide)))
 have w0 : (min (IntKind.wrap .i64 (8 * 0)).toNat 64) = 0 := by decide
 have w1 : (min (IntKind.wrap .i64 (8 * 1)).toNat 64) = 8 := by decide
 have w2 : (min (IntKind.wrap .i64 (8 * 2)).toNat 64) = 16 := by decide
 have w3 : (min (IntKind.wrap .i64 (8 * 3)).toNat 64) = 24 := by decide
 unfold bt D.toI
 simp only [w0, w1, w2, w3, e, IntKind.wrap_u8]
 refine ⟨?_, ?_, ?_, ?_⟩ <;> omega
theorem numB_nb4 {n : Int} (big : Bool) (h0 : 0 ≤ n) (h1 : n < 4294967296) : numB (nb4 n big) big = n := by
 obtain ⟨b0, b1, b2, b3⟩ := bt_at h0 h1
 cases big with
 | true =>
  show 256 * (256 * (256 * (256 * 0 + (bt n 3).toI) + (bt n 2).toI) + (bt n 1).toI) + (bt n 0).toI = n
  rw [b0, b1, b2, b3]; omega
 | false =>
  show 256 * (256 * (256 * (256 * 0 + (bt n 3).toI) + (bt n 2).toI) + (bt n 1).toI) + (bt n 0).toI = n
  rw [b0, b1, b2, b3]; omega
end Go.Proofs.Ytnnofignhdijiaa

/-! Plain laws: Widen. -/
namespace Go.Proofs.Ytnnofignhdijiaa
open Go Go.AM
set_option maxRecDepth 100000
set_option maxHeartbeats 4000000
set_option linter.unusedVariables false
variable {N : Nat}
/-- The bytes of data with a time put in. -/
def wideB (a : Ab) (x : D) : List D := (bX x).take (tmL 0 (a.fs (sX x).toNat)).toNat ++ nb4 (timeE a x) (a.bg (sX x).toNat) ++ (bX x).drop (tmL 0 (a.fs (sX x).toNat)).toNat
structure WdE (a : Ab) (x y : D) : Prop where
 n : kX x ≠ 3 → EqE x y
 t : kX x = 3 → timeE a x ≤ 4294967294 ∧ kX y = 2 ∧ sX y = sX x ∧ oX y = 0 ∧ dX y = [] ∧ bX y = wideB a x
def WdL : Ab → List D → List D → Prop
 | _, [], [] => True
 | a, x :: r, y :: s => WdE a x y ∧ WdL (stepA a x) r s
 | _, _, _ => False
def lateA : Ab → List D → Bool
 | _, [] => false
 | a, x :: r => bif (kX x == 3) && decide (timeE a x > 4294967294) then true else lateA (stepA a x) r
theorem WdE.eq {a : Ab} {x y z : D} (h : WdE a x y) (h' : WdE a x z) : EqE y z := by
 by_cases hk : kX x = 3
 ·obtain ⟨_, k1, s1, o1, d1, b1⟩ := h.t hk
  obtain ⟨_, k2, s2, o2, d2, b2⟩ := h'.t hk
  exact ⟨by rw [k1, k2], by rw [s1, s2], by rw [o1, o2], by rw [d1, d2], by rw [b1, b2]⟩
 ·have h1 := h.n hk
  have h2 := h'.n hk
  exact ⟨h1.k.symm.trans h2.k, h1.s.symm.trans h2.s, h1.o.symm.trans h2.o, h1.d.symm.trans h2.d, h1.b.symm.trans h2.b⟩
theorem WdL.eq : ∀ {es ys zs : List D} {a : Ab}, WdL a es ys → WdL a es zs → All2 EqE ys zs
 | [], [], [], _, _, _ => trivial
 | x :: r, y :: s, z :: t, a, h, h' => ⟨h.1.eq h'.1, WdL.eq h.2 h'.2⟩
 | [], _ :: _, _, _, h, _ => h.elim
 | [], [], _ :: _, _, _, h => h.elim
 | _ :: _, [], _, _, h, _ => h.elim
 | _ :: _, _ :: _, [], _, _, h => h.elim
theorem WdL.len : ∀ {es ys : List D} {a : Ab}, WdL a es ys → ys.length = es.length
 | [], [], _, _ => rfl
 | x :: r, y :: s, a, h => by simp [WdL.len h.2]
 | [], _ :: _, _, h => h.elim
 | _ :: _, [], _, h => h.elim
/-- What is known of a short entry that is right. -/
theorem short_ok {a : Ab} {x : D} (ha : OkA a) (h : errE a x = 0) (hk : kX x = 3) : FldsOk (a.fs (sX x).toNat) ∧ 0 ≤ tmL 0 (a.fs (sX x).toNat) ∧ tmL 0 (a.fs (sX x).toNat) + 4 ≤ szL (a.fs (sX x).toNat) ∧ ((bX x).length : Int) = szL (a.fs (sX x).toNat) - 4 ∧ (bX x).length ≤ 65025 ∧ 0 ≤ timeE a x ∧ a.kn (sX x).toNat = true := by
 have hE := entE_ok h
 obtain ⟨h1, h2, h3, h4, h5⟩ := ent_ok (ha _) h
 have hkn := (hE.n (by omega)).1
 have hf := ha _ hkn
 obtain ⟨t0, l0, o0, o1, hl⟩ := hE.h hk
 have tb := tmL_bound (a := 0) (by omega) hf.size
 refine ⟨hf, t0, by omega, hl, h5, ?_, hkn⟩
 unfold timeE timeC
 rw [hk, show ((3 : Int) == 1) = false from rfl, show ((3 : Int) == 3) = true from rfl]
 simp only [_root_.cond_true, _root_.cond_false]
 omega
theorem wide_ok {a : Ab} {x y : D} (ha : OkA a) (h : errE a x = 0) (hw : WdE a x y) : errE a y = 0 ∧ timeE a y = timeE a x ∧ stepA a y = stepA a x ∧ kX y ≠ 3 := by
 by_cases hk : kX x = 3
 ·obtain ⟨hT, ky, sy, oy, dy, by'⟩ := hw.t hk
  obtain ⟨hf, t0, t1, t2, t3, t4, hkn⟩ := short_ok ha h hk
  obtain ⟨h1, h2, h3, h4, h5⟩ := ent_ok (ha _) h
  have l4 := nb4_len (timeE a x) (a.bg (sX x).toNat)
  have hlen : ((bX y).length : Int) = szL (a.fs (sX x).toNat) := by
   rw [by']; unfold wideB
   simp only [List.length_append, List.length_take, List.length_drop, l4]
   omega
  have hsl : (((bX y).take (tmL 0 (a.fs (sX x).toNat) + 4).toNat).drop (tmL 0 (a.fs (sX x).toNat)).toNat) = nb4 (timeE a x) (a.bg (sX x).toNat) := by
   rw [by']; unfold wideB
   generalize nb4 (timeE a x) (a.bg (sX x).toNat) = q at l4 ⊢
   have e1 : ((bX x).take (tmL 0 (a.fs (sX x).toNat)).toNat).length = (tmL 0 (a.fs (sX x).toNat)).toNat := by rw [List.length_take]; omega
   rw [List.take_append_of_le_length (by simp only [List.length_append, e1, l4]; omega), List.take_of_length_le (by simp only [List.length_append, e1, l4]; omega), List.drop_append_of_le_length (by omega), List.drop_eq_nil_of_le (by omega)]
   rfl
  have htime : timeE a y = timeE a x := by
   have e : timeE a y = timeC a 2 (sX x) 0 (bX y) := by unfold timeE; rw [ky, sy, oy]
   rw [e]
   unfold timeC
   rw [hsl, numB_nb4 _ t4 (by omega), decide_eq_false (show ¬ tmL 0 (a.fs (sX x).toNat) < 0 by omega)]
   have : (timeE a x == 4294967295) = false := by simp; omega
   rw [this]; rfl
  refine ⟨?_, htime, ?_, by rw [ky]; decide⟩
  ·unfold errE errC entE
   rw [ky, sy, oy, dy, hlen, hkn]
   have i1 : inI 2 1 3 = true := rfl
   have i2 : inI (sX x) 0 15 = true := decide_eq_true h2
   have i3 : inI 0 0 0 = true := rfl
   rw [i1, show (bif ((2 : Int) == 3) then (3 : Int) else 15) = 15 from rfl, show (bif ((2 : Int) == 3) then (31 : Int) else 0) = 0 from rfl, i2, i3]
   have i4 : (szL (a.fs (sX x).toNat) != (bif ((2 : Int) == 3) then szL (a.fs (sX x).toNat) - 4 else szL (a.fs (sX x).toNat))) = false := by simp
   rw [i4]; rfl
  ·have e1 : (kX y == 1) = false := by rw [ky]; rfl
   have e2 : (kX x == 1) = false := by rw [hk]; rfl
   unfold stepA stepD
   rw [e1, e2]
   simp only [_root_.cond_false]
   have : timeC a (kX y) (sX y) (oX y) (bX y) = timeC a (kX x) (sX x) (oX x) (bX x) := htime
   rw [this]
 ·have he := hw.n hk
  exact ⟨by rw [← he.err]; exact h, (he.time a).symm, (he.step a).symm, by rw [← he.k]; exact hk⟩
theorem WdL.ok : ∀ {es ys : List D} {a : Ab}, OkA a → errsA a es = 0 → WdL a es ys → errsA a ys = 0 ∧ timesD a ys = timesD a es ∧ ∀ y ∈ ys, kX y ≠ 3
 | [], [], _, _, _, _ => ⟨rfl, rfl, by simp⟩
 | x :: r, y :: s, a, ha, he, h => by
  obtain ⟨e1, e2⟩ := errs_cons he
  obtain ⟨w1, w2, w3, w4⟩ := wide_ok ha e1 h.1
  obtain ⟨i1, i2, i3⟩ := WdL.ok (ha.step e1) e2 h.2
  refine ⟨?_, ?_, ?_⟩
  ·simp only [errsA]
   rw [w1, w3]
   exact i1
  ·rw [timesD_cons, timesD_cons, w2, w3, i2]
  ·intro z hz
   rcases List.mem_cons.1 hz with rfl | hz
   ·exact w4
   ·exact i3 z hz
 | [], _ :: _, _, _, _, h => h.elim
 | _ :: _, [], _, _, _, h => h.elim
section
variable {es : List D}
theorem piece3 {data : List D} {t : Int} (h0 : 0 ≤ t) (h1 : t ≤ data.length) : ((data.take t.toNat).drop 0) = data.take t.toNat ∧ ((data.take (data.length : Int).toNat).drop t.toNat) = data.drop t.toNat := by
 constructor
 ·simp
 ·simp
theorem widen_loopP (hN : maxLen < N) (hes : ∀ x ∈ es, EntD x) (hl : es.length ≤ 50000) : ∀ (m : Nat) (i : Int) (p s : D) (a : Ab) (o : List D), OkA a → 0 ≤ i → i ≤ es.length → (es.length - i).toNat < m → Wk p s a i → errsA a (es.drop i.toNat) = 0 → o.length = es.length → All2 EqE (es.drop i.toNat) (o.drop i.toNat) →
  ∃ o', L31x0x21 N es es.length m i o p (fun p => some (Sum.inl p)) (fun p => some (Sum.inr p)) = some (bif lateA a (es.drop i.toNat) then .inl o' else .inr o') ∧
   (lateA a (es.drop i.toNat) = false → o'.length = es.length ∧ o'.take i.toNat = o.take i.toNat ∧ WdL a (es.drop i.toNat) (o'.drop i.toNat)) := by
 have hm : maxLen = 9223372036854775807 := rfl
 intro m
 induction m with
 | zero => intro i p s a o _ _ _ h; omega
 | succ m ih =>
  intro i p s a o ha h0 h1 hmm hw he ho hr
  unfold L31x0x21 S31x0x21
  by_cases hi : i < es.length
  ·have hx : EntD _ := hes _ (getD_mem (fs := es) h0 hi)
   have hod := drop_at (.i 0) (xs := o) h0 (by omega)
   rw [drop_at (.i 0) h0 hi] at he hr ⊢
   rw [hod] at hr
   obtain ⟨e1, e2⟩ := errs_cons he
   obtain ⟨p', s', q1, q2, hw'⟩ := take_abs (N := N) hN hw hx h0 (by omega) e1
   have hE := entE_ok e1
   have hlt : (fun x => x) i.toNat < o.length := by show i.toNat < _; omega
   rw [decide_eq_true hi, inB_of h0 hi, q1]
   simp only [_root_.cond_true, bnd_eq, Option.isSome_some, getD_some, lateA]
   by_cases hk : kX (es.getD i.toNat (.i 0)) = 3
   ·obtain ⟨hf, t0, t1, t2, t3, t4, hkn⟩ := short_ok ha e1 hk
    have hk1 : kX (es.getD i.toNat (.i 0)) ≠ 1 := by omega
    obtain ⟨s1, s2, s3, s4, s5⟩ := step_data (a := a) hk1
    have hkn' : (stepA a (es.getD i.toNat (.i 0))).kn (sX (es.getD i.toNat (.i 0))).toNat = true := by rw [s1]; exact hkn
    obtain ⟨_, g2, g3, g4, g5, g6⟩ := hw'.pp.df _ hE.s.2 hkn'
    have b3 : (kX (es.getD i.toNat (.i 0)) != 3) = false := by rw [hk]; rfl
    have b4 : (kX (es.getD i.toNat (.i 0)) == 3) = true := by rw [hk]; rfl
    rw [b3, b4]
    simp only [_root_.cond_false, Bool.true_and]
    cases hlate : decide (timeE a (es.getD i.toNat (.i 0)) > 4294967294) with
    | true => exact ⟨o, rfl, fun h => by simp at h⟩
    | false =>
     have hT : timeE a (es.getD i.toNat (.i 0)) ≤ 4294967294 := by have := of_decide_eq_false hlate; omega
     rw [hE.s.1]
     unfold stepA at s2 s3 s4
     rw [s2] at g2
     rw [s4] at g6
     have c0 : decide (0 ≤ tmL 0 (a.fs (sX (es.getD i.toNat (.i 0))).toNat)) = true := decide_eq_true t0
     have c1 : decide (tmL 0 (a.fs (sX (es.getD i.toNat (.i 0))).toNat) ≤ ((bX (es.getD i.toNat (.i 0))).length : Int)) = true := decide_eq_true (by omega)
     have c2 : decide (((bX (es.getD i.toNat (.i 0))).length : Int) ≤ ((bX (es.getD i.toNat (.i 0))).length : Int)) = true := decide_eq_true (Int.le_refl _)
     obtain ⟨z1, z2⟩ := piece3 (data := bX (es.getD i.toNat (.i 0))) t0 (by omega)
     have l4 := nb4_len (timeE a (es.getD i.toNat (.i 0))) (a.bg (sX (es.getD i.toNat (.i 0))).toNat)
     obtain ⟨cb, k3⟩ := concat_eq (N := N) (ps := [.l ((es.getD i.toNat (.i 0)).cell 4).isNil ((bX (es.getD i.toNat (.i 0))).take (tmL 0 (a.fs (sX (es.getD i.toNat (.i 0))).toNat)).toNat), .l false (nb4 (timeE a (es.getD i.toNat (.i 0))) (a.bg (sX (es.getD i.toNat (.i 0))).toNat)), .l ((es.getD i.toNat (.i 0)).cell 4).isNil ((bX (es.getD i.toNat (.i 0))).drop (tmL 0 (a.fs (sX (es.getD i.toNat (.i 0))).toNat)).toNat)]) hN (by simp) (by simp only [catL, D.items, List.length_append, List.length_nil, List.length_take, List.length_drop, l4]; omega)
     have ec : catL [.l ((es.getD i.toNat (.i 0)).cell 4).isNil ((bX (es.getD i.toNat (.i 0))).take (tmL 0 (a.fs (sX (es.getD i.toNat (.i 0))).toNat)).toNat), .l false (nb4 (timeE a (es.getD i.toNat (.i 0))) (a.bg (sX (es.getD i.toNat (.i 0))).toNat)), .l ((es.getD i.toNat (.i 0)).cell 4).isNil ((bX (es.getD i.toNat (.i 0))).drop (tmL 0 (a.fs (sX (es.getD i.toNat (.i 0))).toNat)).toNat)] = wideB a (es.getD i.toNat (.i 0)) := by
      simp only [catL, D.items, wideB, List.append_assoc, List.append_nil]
     rw [ec] at k3
     simp only [_root_.cond_true, _root_.cond_false, g2, g6, c0, c1, c2, Bool.and_self, z1, z2, P67_4 hN, Option.isSome_some, getD_some, k3]
     rw [inB_of (n := o.length) h0 (by omega), decide_eq_true (show i.toNat < o.length by omega), wrapI (x := i + 1) (by omega) (by omega)]
     simp only [_root_.cond_true]
     have hset : (o.set i.toNat (.a [.i 2, .i (sX (es.getD i.toNat (.i 0))), .i 0, .l true [], .l cb (wideB a (es.getD i.toNat (.i 0)))])).drop (i + 1).toNat = o.drop (i + 1).toNat := by
      rw [show (i + 1).toNat = i.toNat + 1 by omega]
      simp [List.drop_set]
     obtain ⟨o', w1, w2⟩ := ih (i + 1) p' s' _ (o.set i.toNat (.a [.i 2, .i (sX (es.getD i.toNat (.i 0))), .i 0, .l true [], .l cb (wideB a (es.getD i.toNat (.i 0)))])) (ha.step e1) (by omega) (by omega) (by omega) hw' e2 (by simp; omega) (by rw [hset]; exact hr.2)
     refine ⟨o', w1, fun hlf => ?_⟩
     obtain ⟨v1, v2, v3⟩ := w2 hlf
     have hg : o'.getD i.toNat (.i 0) = .a [.i 2, .i (sX (es.getD i.toNat (.i 0))), .i 0, .l true [], .l cb (wideB a (es.getD i.toNat (.i 0)))] := by
      have := congrArg (fun l => l.getD i.toNat (D.i 0)) v2
      simp only [List.getD_eq_getElem?_getD] at this ⊢
      rw [List.getElem?_take_of_lt (by omega), List.getElem?_take_of_lt (by omega), List.getElem?_set_self (by omega)] at this
      exact this
     refine ⟨v1, ?_, ?_⟩
     ·have := congrArg (fun l => l.take i.toNat) v2
      simp only [List.take_take, show min i.toNat (i + 1).toNat = i.toNat by omega] at this
      rw [this, List.take_set_of_le (by omega)]
     ·rw [drop_at (.i 0) (xs := o') h0 (by omega), hg]
      exact ⟨⟨fun h => absurd hk h, fun _ => ⟨hT, rfl, rfl, rfl, rfl, rfl⟩⟩, v3⟩
   ·have b3 : (kX (es.getD i.toNat (.i 0)) != 3) = true := by simpa using hk
    have b4 : (kX (es.getD i.toNat (.i 0)) == 3) = false := by simpa using hk
    rw [b3, b4, wrapI (x := i + 1) (by omega) (by omega)]
    simp only [_root_.cond_true, _root_.cond_false, Bool.false_and]
    obtain ⟨o', w1, w2⟩ := ih (i + 1) p' s' _ o (ha.step e1) (by omega) (by omega) (by omega) hw' e2 ho hr.2
    refine ⟨o', w1, fun hlf => ?_⟩
    obtain ⟨v1, v2, v3⟩ := w2 hlf
    have hg : o'.getD i.toNat (.i 0) = o.getD i.toNat (.i 0) := by
     have := congrArg (fun l => l.getD i.toNat (D.i 0)) v2
     simp only [List.getD_eq_getElem?_getD] at this ⊢
     rw [List.getElem?_take_of_lt (by omega), List.getElem?_take_of_lt (by omega)] at this
     exact this
    refine ⟨v1, ?_, ?_⟩
    ·have := congrArg (fun l => l.take i.toNat) v2
     simp only [List.take_take, show min i.toNat (i + 1).toNat = i.toNat by omega] at this
     exact this
    ·rw [drop_at (.i 0) (xs := o') h0 (by omega), hg]
     exact ⟨⟨fun _ => hr.1, fun h => absurd h hk⟩, v3⟩
  ·have : i = es.length := by omega
   subst this
   rw [decide_eq_false hi, drop_end (by omega)]
   refine ⟨o, rfl, fun _ => ⟨ho, rfl, ?_⟩⟩
   rw [← ho, drop_end (by omega)]
   trivial
theorem widen_loopR (hN : maxLen < N) (hes : ∀ x ∈ es, EntD x) (hl : es.length ≤ 50000) {ds ts : List D} (hds : ds.length = es.length) (hts : ts.length = es.length) : ∀ (m : Nat) (i : Int) (a : Ab) (b : Bool) (acc : List D), OkA a → 0 ≤ i → i ≤ es.length → (es.length - i).toNat < m → errsA a (es.drop i.toNat) = 0 → PlL a (es.drop i.toNat) (ds.drop i.toNat) → ts.drop i.toNat = timesD a (es.drop i.toNat) → (acc.length : Int) ≤ i →
  ∃ b' ys, L32x0x21 N es es.length ds ts m i b acc (fun p => some (Sum.inl p)) (fun p => some (Sum.inr p)) = some (bif lateA a (es.drop i.toNat) then .inl (b', ys) else .inr (b', ys)) ∧
   (lateA a (es.drop i.toNat) = false → ∃ zs, ys = acc ++ zs ∧ WdL a (es.drop i.toNat) zs) := by
 have hm : maxLen = 9223372036854775807 := rfl
 intro m
 induction m with
 | zero => intro i a b acc _ _ _ h; omega
 | succ m ih =>
  intro i a b acc ha h0 h1 hmm he hp ht hacc
  unfold L32x0x21 S32x0x21
  by_cases hi : i < es.length
  ·have hx : EntD _ := hes _ (getD_mem (fs := es) h0 hi)
   rw [drop_at (.i 0) h0 hi] at he hp ht ⊢
   obtain ⟨e1, e2⟩ := errs_cons he
   obtain ⟨d, dr, dd, dok, dp⟩ := hp.at_
   obtain ⟨dg, ddr, _⟩ := getD_drop h0 dd
   rw [timesD_cons] at ht
   obtain ⟨tg, tdr, _⟩ := getD_drop h0 ht
   rw [← ddr] at dp
   have hE := entE_ok e1
   have r1 : decide ((acc.length + 1) * 72 ≤ room) = true := decide_eq_true (by unfold room; omega)
   have r2 : decide (acc.length + 1 ≤ strMax) = true := decide_eq_true (by unfold strMax; omega)
   rw [decide_eq_true hi, inB_of h0 hi]
   simp only [_root_.cond_true, bnd_eq, lateA]
   by_cases hk : kX (es.getD i.toNat (.i 0)) = 3
   ·obtain ⟨hf, t0, t1, t2, t3, t4, hkn⟩ := short_ok ha e1 hk
    obtain ⟨nl, hd⟩ := dok.2 (by omega)
    have b4 : (kX (es.getD i.toNat (.i 0)) == 3) = true := by rw [hk]; rfl
    rw [b4]
    simp only [Bool.true_and]
    have c0 : decide (0 ≤ tmL 0 (a.fs (sX (es.getD i.toNat (.i 0))).toNat)) = true := decide_eq_true t0
    have c1 : decide (tmL 0 (a.fs (sX (es.getD i.toNat (.i 0))).toNat) ≤ ((bX (es.getD i.toNat (.i 0))).length : Int)) = true := decide_eq_true (by omega)
    have c2 : decide (((bX (es.getD i.toNat (.i 0))).length : Int) ≤ ((bX (es.getD i.toNat (.i 0))).length : Int)) = true := decide_eq_true (Int.le_refl _)
    obtain ⟨z1, z2⟩ := piece3 (data := bX (es.getD i.toNat (.i 0))) t0 (by omega)
    have l4 := nb4_len (timeE a (es.getD i.toNat (.i 0))) (a.bg (sX (es.getD i.toNat (.i 0))).toNat)
    have h79 : G79x0 N (a.fs (sX (es.getD i.toNat (.i 0))).toNat) = some (tmL 0 (a.fs (sX (es.getD i.toNat (.i 0))).toNat), true) := by
     rw [G79x0_eq hN hf, decide_eq_false (by omega)]; rfl
    have h32 : G32x0x32 N i true ds ts (bX (es.getD i.toNat (.i 0))) = some (bif decide (timeE a (es.getD i.toNat (.i 0)) > 4294967294) then .inl () else .inr (.inl (((bX (es.getD i.toNat (.i 0))).drop (tmL 0 (a.fs (sX (es.getD i.toNat (.i 0))).toNat)).toNat).isEmpty && ((nb4 (timeE a (es.getD i.toNat (.i 0))) (a.bg (sX (es.getD i.toNat (.i 0))).toNat)).isEmpty && (((bX (es.getD i.toNat (.i 0))).take (tmL 0 (a.fs (sX (es.getD i.toNat (.i 0))).toNat)).toNat).isEmpty && false)), wideB a (es.getD i.toNat (.i 0))))) := by
     unfold G32x0x32 F32x0x32
     have x0 : ((D.a [.b (a.bg (sX (es.getD i.toNat (.i 0))).toNat), .i (a.gl (sX (es.getD i.toNat (.i 0))).toNat), .l nl (a.fs (sX (es.getD i.toNat (.i 0))).toNat)]).cell 0).toB = a.bg (sX (es.getD i.toNat (.i 0))).toNat := rfl
     have x2 : ((D.a [.b (a.bg (sX (es.getD i.toNat (.i 0))).toNat), .i (a.gl (sX (es.getD i.toNat (.i 0))).toNat), .l nl (a.fs (sX (es.getD i.toNat (.i 0))).toNat)]).cell 2).items = a.fs (sX (es.getD i.toNat (.i 0))).toNat := rfl
     rw [inB_of (n := ds.length) h0 (by omega), dg, hd]
     have x3 : ([D.a [.b (a.bg (sX (es.getD i.toNat (.i 0))).toNat), .i (a.gl (sX (es.getD i.toNat (.i 0))).toNat), .l nl (a.fs (sX (es.getD i.toNat (.i 0))).toNat)]] : List D).getD 0 (.i 0) = D.a [.b (a.bg (sX (es.getD i.toNat (.i 0))).toNat), .i (a.gl (sX (es.getD i.toNat (.i 0))).toNat), .l nl (a.fs (sX (es.getD i.toNat (.i 0))).toNat)] := rfl
     have x4 : inB 0 ([D.a [.b (a.bg (sX (es.getD i.toNat (.i 0))).toNat), .i (a.gl (sX (es.getD i.toNat (.i 0))).toNat), .l nl (a.fs (sX (es.getD i.toNat (.i 0))).toNat)]] : List D).length = true := rfl
     have x5 : (D.i (timeE a (es.getD i.toNat (.i 0)))).toI = timeE a (es.getD i.toNat (.i 0)) := rfl
     rw [x3, x4, x0, x2, inB_of (n := ts.length) h0 (by omega), tg, x5]
     have tl : ((bX (es.getD i.toNat (.i 0))).take (tmL 0 (a.fs (sX (es.getD i.toNat (.i 0))).toNat)).toNat).length ≤ 65025 := by rw [List.length_take]; omega
     have dl : ((bX (es.getD i.toNat (.i 0))).drop (tmL 0 (a.fs (sX (es.getD i.toNat (.i 0))).toNat)).toNat).length ≤ 65025 := by rw [List.length_drop]; omega
     obtain ⟨A, hA⟩ : ∃ A, (bX (es.getD i.toNat (.i 0))).take (tmL 0 (a.fs (sX (es.getD i.toNat (.i 0))).toNat)).toNat = A := ⟨_, rfl⟩
     obtain ⟨Bq, hB⟩ : ∃ A, (bX (es.getD i.toNat (.i 0))).drop (tmL 0 (a.fs (sX (es.getD i.toNat (.i 0))).toNat)).toNat = A := ⟨_, rfl⟩
     rw [hA] at tl z1
     rw [hB] at dl z2
     have hW : wideB a (es.getD i.toNat (.i 0)) = A ++ nb4 (timeE a (es.getD i.toNat (.i 0))) (a.bg (sX (es.getD i.toNat (.i 0))).toNat) ++ Bq := by unfold wideB; rw [hA, hB]
     have p1 : decide ((0 + A.length) * 1 ≤ room) = true := decide_eq_true (by unfold room; omega)
     have p2 : decide (0 + A.length ≤ strMax) = true := decide_eq_true (by unfold strMax; omega)
     have p3 : decide ((A.length + (nb4 (timeE a (es.getD i.toNat (.i 0))) (a.bg (sX (es.getD i.toNat (.i 0))).toNat)).length) * 1 ≤ room) = true := decide_eq_true (by unfold room; omega)
     have p4 : decide (A.length + (nb4 (timeE a (es.getD i.toNat (.i 0))) (a.bg (sX (es.getD i.toNat (.i 0))).toNat)).length ≤ strMax) = true := decide_eq_true (by unfold strMax; omega)
     have p5 : decide (((A ++ nb4 (timeE a (es.getD i.toNat (.i 0))) (a.bg (sX (es.getD i.toNat (.i 0))).toNat)).length + Bq.length) * 1 ≤ room) = true := decide_eq_true (by rw [List.length_append]; unfold room; omega)
     have p6 : decide ((A ++ nb4 (timeE a (es.getD i.toNat (.i 0))) (a.bg (sX (es.getD i.toNat (.i 0))).toNat)).length + Bq.length ≤ strMax) = true := decide_eq_true (by rw [List.length_append]; unfold strMax; omega)
     simp only [_root_.cond_true, bnd_eq, h79, Option.isSome_some, getD_some, c0, c1, c2, Bool.and_self, hA, hB, z1, z2, P69_4 hN, p1, p2, p3, p4, p5, p6, hW]
     cases decide (timeE a (es.getD i.toNat (.i 0)) > 4294967294) <;> rfl
    rw [h32]
    cases hlate : decide (timeE a (es.getD i.toNat (.i 0)) > 4294967294) with
    | true => exact ⟨b, acc, rfl, fun h => by simp at h⟩
    | false =>
     have hT : timeE a (es.getD i.toNat (.i 0)) ≤ 4294967294 := by have := of_decide_eq_false hlate; omega
     simp only [_root_.cond_false, inlB, inrQ, inlV, _root_.cond_true, r1, r2, Bool.and_self, wrapI (x := i + 1) (by omega) (by omega)]
     generalize (((bX (es.getD i.toNat (.i 0))).drop (tmL 0 (a.fs (sX (es.getD i.toNat (.i 0))).toNat)).toNat).isEmpty && ((nb4 (timeE a (es.getD i.toNat (.i 0))) (a.bg (sX (es.getD i.toNat (.i 0))).toNat)).isEmpty && (((bX (es.getD i.toNat (.i 0))).take (tmL 0 (a.fs (sX (es.getD i.toNat (.i 0))).toNat)).toNat).isEmpty && false))) = q
     obtain ⟨b', ys, w1, w2⟩ := ih (i + 1) _ false (acc ++ [.a [.i 2, .i (sX (es.getD i.toNat (.i 0))), .i 0, .l true [], .l q (wideB a (es.getD i.toNat (.i 0)))]]) (ha.step e1) (by omega) (by omega) (by omega) e2 dp tdr (by simp; omega)
     refine ⟨b', ys, w1, fun hlf => ?_⟩
     obtain ⟨zs, v1, v2⟩ := w2 hlf
     exact ⟨.a [.i 2, .i (sX (es.getD i.toNat (.i 0))), .i 0, .l true [], .l q (wideB a (es.getD i.toNat (.i 0)))] :: zs, by rw [v1, List.append_assoc]; rfl, ⟨fun h => absurd hk h, fun _ => ⟨hT, rfl, rfl, rfl, rfl, rfl⟩⟩, v2⟩
   ·have b4 : (kX (es.getD i.toNat (.i 0)) == 3) = false := by simpa using hk
    have h32 : G32x0x32 N i false ds ts (bX (es.getD i.toNat (.i 0))) = some (.inr (.inr ())) := rfl
    rw [b4, h32]
    simp only [_root_.cond_false, Bool.false_and, inlB, inrQ, Option.isSome_some, _root_.cond_true, r1, r2, Bool.and_self, wrapI (x := i + 1) (by omega) (by omega)]
    obtain ⟨b', ys, w1, w2⟩ := ih (i + 1) _ false (acc ++ [.a [.i (kX (es.getD i.toNat (.i 0))), .i (sX (es.getD i.toNat (.i 0))), .i (oX (es.getD i.toNat (.i 0))), .l ((es.getD i.toNat (.i 0)).cell 3).isNil (dX (es.getD i.toNat (.i 0))), .l ((es.getD i.toNat (.i 0)).cell 4).isNil (bX (es.getD i.toNat (.i 0)))]]) (ha.step e1) (by omega) (by omega) (by omega) e2 dp tdr (by simp; omega)
    refine ⟨b', ys, w1, fun hlf => ?_⟩
    obtain ⟨zs, v1, v2⟩ := w2 hlf
    exact ⟨.a [.i (kX (es.getD i.toNat (.i 0))), .i (sX (es.getD i.toNat (.i 0))), .i (oX (es.getD i.toNat (.i 0))), .l ((es.getD i.toNat (.i 0)).cell 3).isNil (dX (es.getD i.toNat (.i 0))), .l ((es.getD i.toNat (.i 0)).cell 4).isNil (bX (es.getD i.toNat (.i 0)))] :: zs, by rw [v1, List.append_assoc]; rfl, ⟨fun _ => ⟨rfl, rfl, rfl, rfl, rfl⟩, fun h => absurd h hk⟩, v2⟩
  ·have : i = es.length := by omega
   subst this
   rw [decide_eq_false hi, drop_end (by omega)]
   exact ⟨b, acc, rfl, fun _ => ⟨[], by simp, trivial⟩⟩
theorem clone_loop (hN : maxLen < N) (hes : ∀ x ∈ es, EntT x) (hl : es.length ≤ 50000) (he : errsA Ab.start es = 0) : ∃ b o, G78x0 N es = some (b, o) ∧ All2 EqE es o := by
 have hm : maxLen = 9223372036854775807 := rfl
 have key := loop_indE (A := Int × Bool × LD) (X := Option (Bool × LD)) (S := fun x kr => S78x0x9 N es es.length x.1 x.2.1 x.2.2 (fun a b c => kr (a, b, c)) (fun p => some p)) (L := fun m x => L78x0x9 N es es.length m x.1 x.2.1 x.2.2 (fun p => some p)) (fun m x => rfl)
  (fun x r => ∃ b o, r = some (b, o) ∧ All2 EqE es o) (fun x => 0 ≤ x.1 ∧ x.1 ≤ es.length ∧ All2 EqE (es.take x.1.toNat) x.2.2) (fun x => (es.length - x.1).toNat) ?_ N (0, true, []) ⟨by show (0 : Int) ≤ 0; omega, by show (0 : Int) ≤ _; omega, by simp [All2]⟩ (by simp; omega)
 ·obtain ⟨b, o, q, e⟩ := key
  have q' : G78x0x9 N es es.length 0 true [] = some (b, o) := q
  refine ⟨b, o, ?_, e⟩
  unfold G78x0 F78x0
  rw [q']; rfl
 ·rintro ⟨w, b, acc⟩ kr ⟨h0, h1, h2⟩ ih
  simp only at h0 h1 h2 ih ⊢
  unfold S78x0x9
  by_cases hw : w < es.length
  ·have hxt : EntT _ := hes _ (getD_mem (fs := es) h0 hw)
   obtain ⟨a', ha', ee⟩ := err_at (i := w.toNat) OkA.start he (by omega)
   obtain ⟨o1, o2, o3, o4, o5⟩ := ent_ok (ha' _) ee
   have hE := entE_ok ee
   have hal := AM.All2.length h2
   have hat : (es.take w.toNat).length = w.toNat := by rw [List.length_take]; omega
   have hde := drop_at (.i 0) (xs := es) h0 hw
   obtain ⟨x, hx⟩ : ∃ x, es.getD w.toNat (.i 0) = x := ⟨_, rfl⟩
   rw [hx] at hxt ee o1 o2 o3 o4 o5 hE
   have hds : (dX x).length ≤ 1 := by
    by_cases hk : kX x = 1
    ·rw [(o4 hk).1]; exact Nat.le_refl _
    ·rw [(hE.n hk).2]; omega
   have hdl : ∀ d ∈ dX x, (d.cell 2).items.length ≤ 255 := by
    intro d hd
    by_cases hk : kX x = 1
    ·obtain ⟨q1, q2⟩ := o4 hk
     obtain ⟨j, hj, rfl⟩ := List.getElem_of_mem hd
     have hj0 : j = 0 := by omega
     subst hj0
     rw [List.getD_eq_getElem?_getD, List.getElem?_eq_getElem (by omega)] at q2
     exact q2
    ·have := (hE.n hk).2
     rw [List.length_eq_zero_iff.1 this] at hd
     simp at hd
   have hnil : ((x.cell 3).isNil = true → dX x = []) ∧ ((x.cell 4).isNil = true → bX x = []) ∧ ∀ d ∈ dX x, DefT d := by
    obtain ⟨k', s', o', dn, ds, bn, data, rfl, _, _, _, n1, n2, _, _, n3, _⟩ := hxt
    exact ⟨n1, n2, n3⟩
   obtain ⟨n1, ds', n2, q76, qd, qn1, qn2⟩ := clone_ent (N := N) hN hnil.1 hnil.2.1 hds o5 hnil.2.2 hdl
   have r1 : decide ((acc.length + 1) * 72 ≤ room) = true := decide_eq_true (by unfold room; omega)
   have r2 : decide (acc.length + 1 ≤ strMax) = true := decide_eq_true (by unfold strMax; omega)
   rw [decide_eq_true hw, inB_of h0 hw, hx, q76, r1, r2, wrapI (x := w + 1) (by omega) (by omega)]
   refine ih (w + 1, false, acc ++ [.a [.i (kX x), .i (sX x), .i (oX x), .l n1 ds', .l n2 (bX x)]]) ⟨by simp only; omega, by simp only; omega, ?_⟩ (by simp only; omega)
   have e : es.take (w + 1).toNat = es.take w.toNat ++ [x] := by
    rw [show (w + 1).toNat = w.toNat + 1 by omega, List.take_add_one, ← hx, List.getD_eq_getElem?_getD, List.getElem?_eq_getElem (by omega)]
    rfl
   show All2 EqE (es.take (w + 1).toNat) _
   rw [e]
   exact all2_snoc h2 (show EqE x (.a [.i (kX x), .i (sX x), .i (oX x), .l n1 ds', .l n2 (bX x)]) from ⟨rfl, rfl, rfl, qd.symm, rfl⟩)
  ·have : w = es.length := by omega
   subst this
   rw [decide_eq_false hw]
   refine ⟨b, acc, rfl, ?_⟩
   have e : es.take (es.length : Int).toNat = es := by simp
   rw [e] at h2
   exact h2
/-- Widen of both. -/
theorem widen_eq (hN : maxLen < N) (hes : ∀ x ∈ es, EntT x) : ∃ b b' xs ys c, G31x0 N es = some (b, xs, c) ∧ G32x0 N es = some (b', ys, c) ∧ All2 EqE xs ys ∧ (c ≠ 0 → xs = [] ∧ ys = []) ∧ (c = 0 → fileE es = 0 ∧ WdL Ab.start es xs) := by
 have hm : maxLen = 9223372036854775807 := rfl
 have hed : ∀ x ∈ es, EntD x := fun x hx => (hes x hx).entD
 obtain ⟨c1, c2⟩ := check_fileA (N := N) hN hed
 unfold G31x0 F31x0 G32x0 F32x0
 rw [c1, c2]
 simp only [bnd_eq, Option.isSome_some, _root_.cond_true, getD_some]
 cases hc : fileE es != 0 with
 | true => exact ⟨_, _, [], [], _, rfl, rfl, trivial, fun _ => ⟨rfl, rfl⟩, fun h => by rw [h] at hc; simp at hc⟩
 | false =>
 have hz : fileE es = 0 := by simpa using hc
 obtain ⟨hel, he⟩ := fileE_ok hz
 obtain ⟨ob, o, q78, hoe⟩ := clone_loop (N := N) hN hes hel he
 obtain ⟨pb, pb1, ds, q2, hp⟩ := places_ref (N := N) hN hed hz
 obtain ⟨o', w1, w2⟩ := widen_loopP (N := N) hN hed hel N 0 (V70x0 N) zeroS Ab.start o OkA.start (by omega) (by omega) (by omega) start70 (by simpa using he) (AM.All2.length hoe).symm (by simpa using hoe)
 obtain ⟨b', ys, z1, z2⟩ := widen_loopR (N := N) hN hed hel (ds := ds) (ts := timesD Ab.start es) hp.len timesD_len N 0 Ab.start true [] OkA.start (by omega) (by omega) (by omega) (by simpa using he) (by simpa using hp) (by simp) (by simp)
 have y1 : G31x0x21 N es es.length 0 o (V70x0 N) = _ := w1
 have y2 : G32x0x21 N es es.length ds (timesD Ab.start es) 0 true [] = _ := z1
 have e0 : es.drop (0 : Int).toNat = es := rfl
 rw [e0] at y1 y2 w2 z2
 simp only [_root_.cond_false, q78, q2, Option.isSome_some, getD_some, _root_.cond_true, y1, y2]
 cases hlate : lateA Ab.start es with
 | true => exact ⟨_, _, [], [], 9, rfl, rfl, trivial, fun _ => ⟨rfl, rfl⟩, fun h => by simp at h⟩
 | false =>
  obtain ⟨v1, v2, v3⟩ := w2 hlate
  obtain ⟨zs, u1, u2⟩ := z2 hlate
  rw [List.nil_append] at u1
  subst u1
  rw [show o'.drop (0 : Int).toNat = o' from rfl] at v3
  exact ⟨_, _, o', ys, 0, rfl, rfl, v3.eq u2, fun h => absurd rfl h, fun _ => ⟨hz, v3⟩⟩
end
end Go.Proofs.Ytnnofignhdijiaa

namespace Go.Proofs.Ytnnofignhdijiaa
open Go Go.AM
set_option maxRecDepth 100000
set_option maxHeartbeats 4000000
set_option linter.unusedVariables false
theorem told_ok : G17x0 18446744073709551616 = some true := by kernel_rfl
theorem EqE.entD {x y : D} (h : EqE x y) (he : EntD x) : EntD y := by
 obtain ⟨l, _⟩ := defs_eq h.d
 refine ⟨by show (dX y).length ≤ maxLen; rw [← l]; exact he.d, by show (bX y).length ≤ maxLen; rw [← h.b]; exact he.b, fun d hd => ?_, by show BytesOk (bX y); rw [← h.b]; exact he.y⟩
 have hd : d ∈ dX y := hd
 obtain ⟨j, hj, rfl⟩ := List.getElem_of_mem hd
 obtain ⟨d2, e1, e2⟩ := (map_all2 h.d.symm).get (List.getElem?_eq_getElem hj)
 rw [(nDef_inj e2).2.2]
 exact he.f d2 (List.mem_of_getElem? e1)
theorem WdL.entD : ∀ {es ys : List D} {a : Ab}, OkA a → errsA a es = 0 → WdL a es ys → (∀ x ∈ es, EntD x) → ∀ y ∈ ys, EntD y
 | [], [], _, _, _, _, _, y, hy => by simp at hy
 | x :: r, z :: s, a, ha, he, h, hes, y, hy => by
  obtain ⟨e1, e2⟩ := errs_cons he
  rcases List.mem_cons.1 hy with rfl | hy
  ·by_cases hk : kX x = 3
   ·have hm : maxLen = 9223372036854775807 := rfl
    obtain ⟨hT, ky, sy, oy, dy, b2⟩ := h.1.t hk
    obtain ⟨hf, t0, t1, t2, t3, t4, hkn⟩ := short_ok ha e1 hk
    have hx := hes x (by simp)
    refine ⟨by show (dX y).length ≤ maxLen; rw [dy]; simp, ?_, fun d hd => ?_, ?_⟩
    ·show (bX y).length ≤ maxLen
     rw [b2]; unfold wideB
     simp only [List.length_append, List.length_take, List.length_drop, nb4_len]
     omega
    ·have hd : d ∈ dX y := hd
     rw [dy] at hd; simp at hd
    ·show BytesOk (bX y)
     rw [b2]; unfold wideB
     exact BytesOk.append (BytesOk.append (fun q hq => hx.y q (List.mem_of_mem_take hq)) (nb4_ok _ _)) (fun q hq => hx.y q (List.mem_of_mem_drop hq))
   ·exact (h.1.n hk).entD (hes x (by simp))
  ·exact WdL.entD (ha.step e1) e2 h.2 (fun q hq => hes q (by simp [hq])) y hy
 | [], _ :: _, _, _, _, h, _, _, _ => h.elim
 | _ :: _, [], _, _, _, h, _, _, _ => h.elim
theorem noShort {N : Nat} (hN : maxLen < N) {xs : List D} (h : ∀ x ∈ xs, kX x ≠ 3) (hl : xs.length ≤ maxLen) : G33x0 N xs = some false := by
 have hm : maxLen = 9223372036854775807 := rfl
 have k : G80x0x6 N xs xs.length 0 = some (.inr ()) := by
  refine loop_ind (A := Int) (X := Option (Sum Int Unit)) (S := fun w kr => S80x0x6 N xs xs.length w kr (fun p => some (.inl p)) (fun p => some (.inr p))) (L := fun m w => L80x0x6 N xs xs.length m w (fun p => some (.inl p)) (fun p => some (.inr p))) (fun m w => rfl) (fun _ => some (.inr ())) (fun w => 0 ≤ w ∧ w ≤ xs.length) (fun w => (xs.length - w).toNat) ?_ N 0 ⟨by omega, by omega⟩ (by simp; omega)
  rintro w kr ⟨h0, h1⟩ ih
  unfold S80x0x6 V34x0 F34x0
  by_cases hw : w < xs.length
  ·have : (kX (xs.getD w.toNat (.i 0)) == 3) = false := by simpa using h _ (getD_mem h0 hw)
   rw [decide_eq_true hw, inB_of h0 hw, this, wrapI (x := w + 1) (by omega) (by omega)]
   exact ih (w + 1) ⟨by omega, by omega⟩ (by omega)
  ·rw [decide_eq_false hw]; rfl
 unfold G33x0 F33x0 G80x0 F80x0
 rw [k]; rfl
theorem law6 {es : List D} (hes : ∀ x ∈ es, EntT x) (hl : es.length ≤ maxLen) (g : Int) : G6x0 18446744073709551616 es g = some true := by
 have hN : maxLen < 18446744073709551616 := by decide
 have hm : maxLen = 9223372036854775807 := rfl
 have hed : ∀ x ∈ es, EntD x := fun x hx => (hes x hx).entD
 obtain ⟨b, b2, l, c, q1, q2, q3⟩ := find_eq (N := 18446744073709551616) hN hed g
 obtain ⟨d, d2, xs, ys, e, w1, w2, w3, w4, w5⟩ := widen_eq (N := 18446744073709551616) hN hes
 have hx : (∀ x ∈ xs, EntD x) ∧ xs.length ≤ maxLen := by
  by_cases he : e = 0
  ·obtain ⟨z, wd⟩ := w5 he
   obtain ⟨fl, fe⟩ := fileE_ok z
   exact ⟨wd.entD OkA.start fe hed, by have := wd.len; omega⟩
  ·rw [(w4 he).1]; simp
 have hn : G6x0x16 18446744073709551616 l c l c e e xs ys = some false := by
  unfold G6x0x16 F6x0x16
  rw [G24_refl (N := 18446744073709551616) hN (xs := l) (by omega), G28_same (N := 18446744073709551616) hN w3 hx.1 hx.2]
  simp [bnd_eq]
 have hr : G6x0x26 18446744073709551616 (e == 0) es xs = some (.inr ()) := by
  by_cases he : e = 0
  ·obtain ⟨z, wd⟩ := w5 he
   obtain ⟨fl, fe⟩ := fileE_ok z
   obtain ⟨o1, o2, o3⟩ := wd.ok OkA.start fe
   have hxl := wd.len
   have zx : fileE xs = 0 := by
    unfold fileE
    rw [decide_eq_false (show ¬ ((xs.length : Int) > 50000) by omega), o1]; rfl
   obtain ⟨t1, t3⟩ := times18 (N := 18446744073709551616) hN hed
   obtain ⟨u1, u3⟩ := times18 (N := 18446744073709551616) hN hx.1
   have tt : timesR xs = timesR es := by unfold timesR; rw [z, zx, o2]
   have tl := timesR_len (es := es)
   have n33 := noShort (N := 18446744073709551616) hN o3 hx.2
   have e31 : G6x0x31 18446744073709551616 (timesR es) 0 (timesR es) 0 xs = some false := by
    unfold G6x0x31 F6x0x31
    rw [G24_refl (N := 18446744073709551616) hN (xs := timesR es) (by omega), n33]
    rfl
   unfold G6x0x26 F6x0x26
   rw [he, t3, u3, tt, z, zx]
   simp only [bnd_eq, beq_self_eq_true, _root_.cond_true, Option.isSome_some, getD_some, e31]
   rfl
  ·have : (e == 0) = false := by simpa using he
   rw [this]; rfl
 unfold G6x0 F6x0
 simp only [bnd_eq, q1, q2, w1, w2, Option.isSome_some, _root_.cond_true, getD_some, hn, hr, _root_.cond_false, inlB, inrQ, told_ok]
theorem Try.own : ownKnob Try.prog.godebug = none := by kernel_rfl
theorem Try.laidOut : laidOutB Try.prog = true := by kernel_rfl
theorem callLaw (dss : List (List D)) (h : All2 (ArgOk Try.prog 6) Try.f6.params.toList dss) : CallOk Try.prog 6 (argVs Try.prog Try.f6.params.toList dss) [] ([.c (.b true)], []) := by
 have hp : Try.f6.params.toList = [33, 3] := by kernel_rfl
 rw [hp] at h ⊢
 match dss, h with
 | [d0, d1], ⟨h0, h1, _⟩ =>
  obtain ⟨nl, es, rfl, hnl, hl, hes⟩ := arg33 h0
  obtain ⟨g, rfl, hg⟩ := arg3 h1
  refine ok6x0 18446744073709551616 _ _ (A6x0 18446744073709551616 [.b nl, .l es, .i g]) (by kernel_rfl) _ ?_
  have e : A6x0 18446744073709551616 [.b nl, .l es, .i g] = bnd (G6x0 18446744073709551616 es g) fun q => [(q.isSome, ([.c (.b (q.getD default))], []))] := by kernel_rfl
  rw [e, law6 hes hl g]
  rfl
theorem lawLifted (os : Os) (started : os.Started) (H : Type) (enc : TypeId × Value → H) :
  ReturnsInHanded {} Try.checked os 6 .any (Rows.recordFindsMatchSpecSpec.pre6 enc Try.prog Try.f6 Rows.recordFindsMatchSpecRow.domain false) (Rows.recordFindsMatchSpecSpec.post enc Try.prog Try.f6 false true false false) := by
 refine returnsInHanded_of_change (C := Try.checked) Try.own started (by kernel_rfl) Try.func6
  (ChangeSpec.witness6 (enc := enc) (C := Try.checked) false ⟨#[], #[.agg #[.slice none 0 0], .int .i64 0], []⟩ 8 (by kernel_rfl) (by kernel_rfl) (by kernel_rfl) (by kernel_rfl)) ?_
 intro W base args ds gs before hval hW _ _
 exact law_call (m := 6) (tb := 4) Try.laidOut rfl (by kernel_rfl) (by kernel_rfl) (by kernel_rfl) (fun l hl => by
  rw [show Try.f6.params.size = 2 by kernel_rfl] at hl
  match l, hl with
  | [_, _], _ => rfl) callLaw hval hW
theorem finds_holds : Rows.RecordFindsMatchSpecSaid :=
 OpenClaim.holds_of_wide 6 Try.f6 rfl rfl rfl rfl rfl rfl rfl ⟨rfl, rfl, rfl, rfl, rfl⟩ rfl rfl rfl rfl rfl (by kernel_rfl) Try.func6 (by kernel_rfl)
  (of_decide_eq_true (by kernel_rfl)) (by unfold Func.isWrapper; first | (rw [if_pos (by decide +kernel)]; kernel_rfl) | (rw [if_neg (by decide +kernel)]; exact ⟨rfl, rfl⟩))
  (fun os started H enc _ => lawLifted os started H enc)
end Go.Proofs.Ytnnofignhdijiaa

