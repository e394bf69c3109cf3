/- Proved: for every row of bytes, record.Read, Salvage and Sum answer what the reference package answers (RecordReadsMatchSpec returns true and leaves its argument as it was). Conditions: none beyond those of the given statement. -/
import Derived.Test.YtnnofignhdijiaaRPp2
import Derived.KernelRfl
import Derived.Test.YtnnofignhdijiaaRows
set_option linter.all false
set_option maxRecDepth 100000
/-! Plain laws: record.Check, record.Same and their references (the numbers are those of the seat of chapter 2). -/
namespace Go.Proofs.Ytnnofignhdijiaa
open Go Go.AM
set_option maxRecDepth 100000
set_option maxHeartbeats 4000000
variable {N : Nat}
def inI (n a b : Int) : Bool := decide (a ≤ n ∧ n ≤ b)
theorem V52x0_eq (n a b : Int) : V52x0 N n a b = inI n a b := by
 unfold V52x0 F52x0 inI
 rw [Bool.eq_iff_iff]; simp
theorem V57x0_eq (n a b : Int) : V57x0 N n a b = !inI n a b := by
 unfold V57x0 F57x0 inI
 rw [Bool.eq_iff_iff]; simp <;> omega
/-! ### The first fault -/
def firstE (e : Int → Int) : Int → List D → Int
 | _, [] => 0
 | w, _ :: r => bif e w != 0 then e w else firstE e (w + 1) r
def wayE (n : Int) : Sum Int Unit := bif n != 0 then .inl n else .inr ()
theorem wayE_cons {e : Int → Int} {w : Int} {x : D} {l : List D} : wayE (firstE e w (x :: l)) = bif e w != 0 then .inl (e w) else wayE (firstE e (w + 1) l) := by
 simp only [firstE]
 cases h : e w != 0 with
 | true => simp only [_root_.cond_true, wayE, h]
 | false => rfl
section
variable {xs : List D} {w : Int}
end
/-- An activity's lengths are possible. -/
structure ActOk (name : List UInt8) (smps laps tags : List D) : Prop where
 n : name.length ≤ maxLen
 s : smps.length ≤ maxLen
 l : laps.length ≤ maxLen
 t : tags.length ≤ maxLen
 ln : ∀ x ∈ laps, (x.cell 2).toS.length ≤ maxLen
 tn : ∀ x ∈ tags, x.toS.length ≤ maxLen
theorem way_do {α : Type} (n : Int) (k0 : Int → α) (k1 : α) (z : α) : (bif inlB (some (wayE n)) then k0 (inlV (some (wayE n))) else bif (inrQ (some (wayE n))).isSome then k1 else z) = bif n != 0 then k0 n else k1 := by
 unfold wayE
 cases n != 0 <;> rfl
section
variable {name : List UInt8} {sport start : Int} {smps laps tags : List D}
end
end Go.Proofs.Ytnnofignhdijiaa

/-! Plain laws: record.Same and its reference. -/
namespace Go.Proofs.Ytnnofignhdijiaa
open Go Go.AM
set_option maxRecDepth 100000
set_option maxHeartbeats 4000000
variable {N : Nat}
def zipAll (f : D → D → Bool) : List D → List D → Bool
 | x :: r, y :: s => f x y && zipAll f r s
 | _, _ => true
theorem zip_ind {xs ys : List D} (f : D → D → Bool) {S : Int → (Int → Option (Sum Unit Unit)) → Option (Sum Unit Unit)} {L : Nat → Int → Option (Sum Unit Unit)} (hL : ∀ m a, L (m + 1) a = S a (L m)) (hlen : xs.length ≤ maxLen) (hxy : xs.length = ys.length)
  (hend : ∀ kr, S xs.length kr = some (.inr ()))
  (hstep : ∀ (w : Int) (kr : Int → Option (Sum Unit Unit)), decide (w < xs.length) = true → inB w xs.length = true → inB w ys.length = true → S w kr = bif f (xs.getD w.toNat (.i 0)) (ys.getD w.toNat (.i 0)) then kr (IntKind.wrap .i64 (w + 1)) else some (.inl ()))
  (hN : maxLen < N) : L N 0 = some (bif zipAll f xs ys then .inr () else .inl ()) := by
 refine (for_ind (.i 0 : D) hL (fun w l => some (bif zipAll f l (ys.drop w.toNat) then .inr () else .inl ())) hlen ?_ ?_ hN).trans (by simp)
 ·intro kr; rw [hend]; simp [zipAll]
 ·intro w kr h0 h1 hw hi hk
  have h2 : w < ys.length := by omega
  rw [hstep w kr (decide_eq_true h1) hi (inB_of h0 (by omega)), hw, hk, drop_at (.i 0) (xs := ys) h0 h2]
  simp only [zipAll]
  cases f (xs.getD w.toNat (.i 0)) (ys.getD w.toNat (.i 0)) <;> rfl
section
variable {xs ys : List D}
end
section
variable {n n' : List UInt8} {sp st sp' st' : Int} {s l t s' l' t' : List D}
end
end Go.Proofs.Ytnnofignhdijiaa

/-! Plain laws: definitions of files, their slots (record.checkDef, slotOf; the references' defFault, timeOf, fieldsOf, sizeOf). -/
namespace Go.Proofs.Ytnnofignhdijiaa
open Go Go.AM
set_option maxRecDepth 100000
set_option maxHeartbeats 4000000
variable {N : Nat}
theorem loop_indE {A X : Type} {S : A → (A → X) → X} {L : Nat → A → X} (hL : ∀ m a, L (m + 1) a = S a (L m)) (P : A → X → Prop) (Inv : A → Prop) (μ : A → Nat)
  (h : ∀ a kr, Inv a → (∀ a', Inv a' → μ a' < μ a → P a' (kr a')) → P a (S a kr)) : ∀ (m : Nat) (a : A), Inv a → μ a < m → P a (L m a) := by
 intro m
 induction m with
 | zero => intro a _ h; omega
 | succ m ih => intro a ha hm; rw [hL]; exact h a (L m) ha fun a' h1 h2 => ih a' h1 (by omega)
def fN (f : D) : Int := (f.cell 0).toI
def fS (f : D) : Int := (f.cell 1).toI
def fT (f : D) : Int := (f.cell 2).toI
def isT (f : D) : Bool := (fN f == 253) && (fT f == 0) && (fS f == 4)
def hasN (n : Int) (l : List D) : Bool := l.any fun f => fN f == n
def fldE (fs : List D) (w : Int) : Int :=
 bif !(inI (fN (fs.getD w.toNat (.i 0))) 0 255) || !(inI (fS (fs.getD w.toNat (.i 0))) 1 255) then 9 else bif !inI (fT (fs.getD w.toNat (.i 0))) 0 3 then 7 else
 bif decide (fT (fs.getD w.toNat (.i 0)) ≤ 1) && (fS (fs.getD w.toNat (.i 0)) != 1) && (fS (fs.getD w.toNat (.i 0)) != 2) && (fS (fs.getD w.toNat (.i 0)) != 4) then 2 else
 bif hasN (fN (fs.getD w.toNat (.i 0))) (fs.take w.toNat) then 5 else 0
def defE (g : Int) (fs : List D) : Int := bif !inI g 0 65535 then 9 else bif decide ((fs.length : Int) > 30) then 3 else firstE (fldE fs) 0 fs
theorem G146x0_eq (hN : maxLen < N) {xs : List D} {n : Int} (hs : xs.length ≤ maxLen) : ∃ i : Int, G146x0 N xs n = some i ∧ decide (i ≥ 0) = hasN n xs := by
 have h : G146x0x6 N xs xs.length n 0 = some (match xs.findIdx? fun d => fN d == n with | some j => .inl (j : Int) | none => .inr ()) := by
  unfold G146x0x6
  refine (for_ind (.i 0 : D) (S := fun w kr => S146x0x6 N xs xs.length n w kr _ _) (L := fun m w => L146x0x6 N xs xs.length n m w _ _) (fun m w => rfl) (fun w l => some (match l.findIdx? fun d => fN d == n with | some j => .inl (w + (j : Int)) | none => .inr ())) hs ?_ ?_ hN).trans (by simp)
  ·intro kr; simp [S146x0x6]
  ·intro w kr h0 h1 hw hi hk
   simp only [S146x0x6, V142x0, F142x0, decide_eq_true h1, _root_.cond_true, hi, bnd_eq, hw, hk, List.findIdx?_cons]
   show (bif (fN (xs.getD w.toNat (.i 0)) == n) then _ else _) = _
   cases fN (xs.getD w.toNat (.i 0)) == n with
   | true => simp
   | false =>
    simp only [_root_.cond_false, Bool.false_eq_true, if_false]
    cases (xs.drop (w + 1).toNat).findIdx? fun d => fN d == n with
    | none => rfl
    | some j => simp; omega
 unfold G146x0 F146x0
 rw [h]
 have hl : hasN n xs = (xs.findIdx? fun d => fN d == n).isSome := by
  rw [List.findIdx?_isSome]; rfl
 rw [hl]
 cases xs.findIdx? fun d => fN d == n with
 | none => exact ⟨-1, rfl, rfl⟩
 | some j => exact ⟨j, rfl, by simp⟩
theorem G141x0_eq (hN : maxLen < N) {xs : List D} {n : Int} (hs : xs.length ≤ maxLen) : G141x0 N xs n = some (hasN n xs) := by
 obtain ⟨i, h1, h2⟩ := G146x0_eq hN (n := n) hs
 unfold G141x0 F141x0
 rw [h1]
 simp only [bnd_eq, Option.isSome_some, _root_.cond_true, getD_some, h2]
theorem G125x0x45_eq (hN : maxLen < N) {xs : List D} {n : Int} (hs : xs.length ≤ maxLen) : G125x0x45 N xs xs.length n 0 = some (bif hasN n xs then .inl () else .inr ()) := by
 unfold G125x0x45
 refine (for_ind (.i 0 : D) (S := fun w kr => S125x0x45 N xs xs.length n w kr _ _) (L := fun m w => L125x0x45 N xs xs.length n m w _ _) (fun m w => rfl) (fun _ l => some (bif hasN n l then .inl () else .inr ())) hs ?_ ?_ hN).trans rfl
 ·intro kr; simp [S125x0x45, hasN]
 ·intro w kr h0 h1 hw hi hk
  simp only [S125x0x45, decide_eq_true h1, _root_.cond_true, hi, hw, hk, hasN, List.any_cons]
  show (bif (fN (xs.getD w.toNat (.i 0)) == n) then _ else _) = _
  cases fN (xs.getD w.toNat (.i 0)) == n <;> rfl
section
variable {fs : List D} {w : Int}
theorem take_ok (h0 : 0 ≤ w) (h1 : w < fs.length) : (decide (0 ≤ w) && decide (w ≤ (fs.length : Int))) = true := by
 rw [decide_eq_true h0, decide_eq_true (by omega)]; rfl
theorem G122x0x18_eq (hN : maxLen < N) (hl : fs.length ≤ maxLen) : G122x0x18 N fs fs.length fs 0 = some (wayE (firstE (fldE fs) 0 fs)) := by
 unfold G122x0x18
 refine (for_ind (.i 0 : D) (S := fun w kr => S122x0x18 N fs fs.length fs w kr _ _) (L := fun m w => L122x0x18 N fs fs.length fs m w _ _) (fun m w => rfl) (fun w l => some (wayE (firstE (fldE fs) w l))) hl ?_ ?_ hN).trans rfl
 ·intro kr; simp [S122x0x18, firstE, wayE]
 ·intro w kr h0 h1 hw hi hk
  have hm := G141x0_eq hN (xs := fs.take w.toNat) (n := fN (fs.getD w.toNat (.i 0))) (by simp; omega)
  simp only [S122x0x18, decide_eq_true h1, _root_.cond_true, hi, bnd_eq, hw, hk, take_ok h0 h1, List.drop_zero, V122x0x28, F122x0x28, V52x0_eq, wayE_cons]
  rw [show (((fs.getD w.toNat (.i 0)).cell 0).toI) = fN (fs.getD w.toNat (.i 0)) from rfl, hm]
  unfold fldE
  generalize hasN (fN (fs.getD w.toNat (.i 0))) (fs.take w.toNat) = hh
  generalize fs.getD w.toNat (.i 0) = f
  rw [show ((f.cell 1).toI) = fS f from rfl, show ((f.cell 2).toI) = fT f from rfl]
  simp only [Option.isSome_some, getD_some, _root_.cond_true]
  cases inI (fN f) 0 255 <;> try rfl
  cases inI (fS f) 1 255 <;> try rfl
  cases h3 : inI (fT f) 0 3 <;> try rfl
  have e : (bif fT f == 0 then true else fT f == 1) = decide (fT f ≤ 1) := by
   unfold inI at h3
   rw [Bool.eq_iff_iff]; simp at h3 ⊢
   by_cases h : fT f = 0 <;> simp [h] <;> omega
  rw [e]
  cases decide (fT f ≤ 1) <;> cases (fS f != 1) <;> cases (fS f != 2) <;> cases (fS f != 4) <;> cases hh <;> rfl
theorem G125x0x18_eq (hN : maxLen < N) (hl : fs.length ≤ maxLen) : G125x0x18 N fs fs.length fs 0 = some (wayE (firstE (fldE fs) 0 fs)) := by
 unfold G125x0x18
 refine (for_ind (.i 0 : D) (S := fun w kr => S125x0x18 N fs fs.length fs w kr _ _) (L := fun m w => L125x0x18 N fs fs.length fs m w _ _) (fun m w => rfl) (fun w l => some (wayE (firstE (fldE fs) w l))) hl ?_ ?_ hN).trans rfl
 ·intro kr; simp [S125x0x18, firstE, wayE]
 ·intro w kr h0 h1 hw hi hk
  have hm := G125x0x45_eq hN (xs := fs.take w.toNat) (n := fN (fs.getD w.toNat (.i 0))) (by simp; omega)
  simp only [S125x0x18, decide_eq_true h1, _root_.cond_true, hi, bnd_eq, hw, hk, take_ok h0 h1, List.drop_zero, V125x0x25, F125x0x25, V57x0_eq, wayE_cons]
  rw [show (((fs.getD w.toNat (.i 0)).cell 0).toI) = fN (fs.getD w.toNat (.i 0)) from rfl, hm]
  unfold fldE
  generalize hasN (fN (fs.getD w.toNat (.i 0))) (fs.take w.toNat) = hh
  generalize fs.getD w.toNat (.i 0) = f
  rw [show ((f.cell 1).toI) = fS f from rfl, show ((f.cell 2).toI) = fT f from rfl]
  cases inI (fN f) 0 255 <;> cases inI (fS f) 1 255 <;> cases inI (fT f) 0 3 <;> try rfl
  cases decide (fT f ≤ 1) <;> cases (fS f != 1) <;> cases (fS f != 2) <;> cases (fS f != 4) <;> cases hh <;> rfl
theorem G122x0_eq (hN : maxLen < N) (g : Int) (hl : fs.length ≤ maxLen) : G122x0 N g fs = some (defE g fs) := by
 unfold G122x0 F122x0 defE
 simp only [bnd_eq, V52x0_eq, G122x0x18_eq hN hl, way_do]
 cases inI g 0 65535 <;> cases decide ((fs.length : Int) > 30) <;> try rfl
 cases h : firstE (fldE fs) 0 fs != 0 <;> first | rfl | (simp only [bne_eq_false_iff_eq] at h; simp [h])
theorem G125x0_eq (hN : maxLen < N) (g : Int) (hl : fs.length ≤ maxLen) : G125x0 N g fs = some (defE g fs) := by
 unfold G125x0 F125x0 defE
 simp only [bnd_eq, V57x0_eq, G125x0x18_eq hN hl, way_do]
 cases inI g 0 65535 <;> cases decide ((fs.length : Int) > 30) <;> try rfl
 cases h : firstE (fldE fs) 0 fs != 0 <;> first | rfl | (simp only [bne_eq_false_iff_eq] at h; simp [h])
end
/-! ### What a right definition is -/
structure FldsOk (fs : List D) : Prop where
 len : fs.length ≤ 255
 size : ∀ f ∈ fs, 0 ≤ fS f ∧ fS f ≤ 255
theorem firstE_zero {e : Int → Int} : ∀ {l : List D} {w : Int}, firstE e w l = 0 → ∀ i : Nat, i < l.length → e (w + i) = 0
 | [], w, _, i, hi => by simp at hi
 | x :: r, w, h, i, hi => by
  simp only [firstE] at h
  cases he : e w != 0 with
  | true =>
   rw [he] at h
   simp only [_root_.cond_true] at h
   rw [h] at he
   simp at he
  | false =>
   rw [he] at h
   cases i with
   | zero => simpa using he
   | succ i =>
    have := firstE_zero (l := r) (w := w + 1) h i (by simpa using hi)
    rw [show w + ((i + 1 : Nat) : Int) = w + 1 + (i : Int) by omega]
    exact this
theorem defE_ok {g : Int} {fs : List D} (h : defE g fs = 0) : FldsOk fs := by
 unfold defE at h
 cases h1 : inI g 0 65535 with
 | false => rw [h1] at h; exact absurd (show (9 : Int) = 0 from h) (by decide)
 | true =>
  rw [h1] at h
  cases h2 : decide ((fs.length : Int) > 30) with
  | true => rw [h2] at h; exact absurd (show (3 : Int) = 0 from h) (by decide)
  | false =>
   rw [h2] at h
   simp only [Bool.not_true, _root_.cond_false] at h
   refine ⟨by simp at h2; omega, fun f hf => ?_⟩
   obtain ⟨i, hi, rfl⟩ := List.getElem_of_mem hf
   have := firstE_zero h i hi
   rw [Int.zero_add] at this
   unfold fldE at this
   have hg : fs.getD ((i : Int)).toNat (.i 0) = fs[i] := by
    rw [List.getD_eq_getElem?_getD, Int.toNat_natCast, List.getElem?_eq_getElem hi]; rfl
   rw [hg] at this
   cases h3 : inI (fS fs[i]) 1 255 with
   | false =>
    rw [h3] at this
    cases inI (fN fs[i]) 0 255 <;> exact absurd (show (9 : Int) = 0 from by simpa using this) (by decide)
   | true => unfold inI at h3; simp at h3; omega
/-! ### Sizes, the time's place -/
def szL : List D → Int
 | [] => 0
 | f :: r => fS f + szL r
def tmL : Int → List D → Int
 | _, [] => -1
 | a, f :: r => bif isT f then a else tmL (a + fS f) r
/-- The fields whose bytes there are. -/
def flds : Bool → List D → List D
 | _, [] => []
 | t, f :: r => bif t && isT f then flds false r else .a [.i (fN f), .i (fS f), .i (fT f)] :: flds t r
theorem szL_bound : ∀ {fs : List D}, (∀ f ∈ fs, 0 ≤ fS f ∧ fS f ≤ 255) → 0 ≤ szL fs ∧ szL fs ≤ 255 * fs.length
 | [], _ => by simp [szL]
 | f :: r, h => by
  have h1 := h f (by simp)
  have h2 := szL_bound (fs := r) fun x hx => h x (by simp [hx])
  simp only [szL, List.length_cons]
  omega
theorem tmL_bound : ∀ {fs : List D} {a : Int}, 0 ≤ a → (∀ f ∈ fs, 0 ≤ fS f ∧ fS f ≤ 255) → (tmL a fs = -1 ∨ a ≤ tmL a fs ∧ tmL a fs + 4 ≤ a + szL fs)
 | [], _, _, _ => .inl rfl
 | f :: r, a, ha, h => by
  have h1 := h f (by simp)
  simp only [tmL, szL]
  cases ht : isT f with
  | true =>
   have h2 := szL_bound (fs := r) fun x hx => h x (by simp [hx])
   have h3 : fS f = 4 := by unfold isT at ht; simp at ht; exact ht.2
   right; simp only [_root_.cond_true]; omega
  | false =>
   simp only [_root_.cond_false]
   rcases tmL_bound (fs := r) (a := a + fS f) (by omega) (fun x hx => h x (by simp [hx])) with h2 | h2
   ·exact .inl h2
   ·right; omega
theorem szL_flds_false : ∀ fs : List D, szL (flds false fs) = szL fs
 | [] => rfl
 | f :: r => by simp only [flds, Bool.false_and, _root_.cond_false, szL, szL_flds_false r]; rfl
theorem szL_flds : ∀ {fs : List D} {a : Int}, 0 ≤ a → (∀ f ∈ fs, 0 ≤ fS f ∧ fS f ≤ 255) → (tmL a fs < 0 → szL (flds true fs) = szL fs) ∧ (0 ≤ tmL a fs → szL (flds true fs) = szL fs - 4)
 | [], _, _, _ => ⟨fun _ => rfl, fun h => absurd (show (0 : Int) ≤ -1 from h) (by decide)⟩
 | f :: r, a, ha, h => by
  have h1 := h f (by simp)
  have e : fS (.a [.i (fN f), .i (fS f), .i (fT f)]) = fS f := rfl
  cases ht : isT f with
  | true =>
   have h3 : fS f = 4 := by unfold isT at ht; simp at ht; exact ht.2
   simp only [flds, tmL, szL, ht, Bool.and_self, _root_.cond_true, szL_flds_false]
   constructor <;> intro h4 <;> omega
  | false =>
   have h5 := szL_flds (fs := r) (a := a + fS f) (by omega) fun x hx => h x (by simp [hx])
   simp only [flds, tmL, szL, ht, Bool.and_false, _root_.cond_false, e]
   exact ⟨fun h4 => by rw [h5.1 h4], fun h4 => by rw [h5.2 h4]; omega⟩
section
variable {fs : List D}
theorem getD_mem {w : Int} (h0 : 0 ≤ w) (h1 : w < fs.length) : fs.getD w.toNat (.i 0) ∈ fs := by
 rw [List.getD_eq_getElem?_getD, List.getElem?_eq_getElem (by omega)]; exact List.getElem_mem _
theorem isT_eq (f : D) : (bif (bif ((f.cell 0).toI == 253) then ((f.cell 2).toI == 0) else false) then ((f.cell 1).toI == 4) else false) = isT f := by
 unfold isT fN fT fS
 cases (f.cell 0).toI == 253 <;> cases (f.cell 2).toI == 0 <;> rfl
theorem V132x0_eq (f : D) : V132x0 N (f.cell 0).toI (f.cell 1).toI (f.cell 2).toI = isT f := isT_eq f
theorem G123x0_eq (hN : maxLen < N) (h : FldsOk fs) : G123x0 N fs = some (szL fs, tmL 0 fs) := by
 have hm : maxLen = 9223372036854775807 := rfl
 have hl := h.len
 have key := loop_ind (A := Int × Int × Int) (X := Option (Int × Int)) (S := fun x kr => S123x0x9 N fs fs.length x.1 x.2.1 x.2.2 (fun a b c => kr (a, b, c)) (fun p => some p)) (L := fun m x => L123x0x9 N fs fs.length m x.1 x.2.1 x.2.2 (fun p => some p)) (fun m x => rfl)
  (fun x => some (x.2.1 + szL (fs.drop x.1.toNat), bif decide (x.2.2 < 0) then tmL x.2.1 (fs.drop x.1.toNat) else x.2.2)) (fun x => 0 ≤ x.1 ∧ x.1 ≤ fs.length ∧ 0 ≤ x.2.1 ∧ x.2.1 ≤ 255 * x.1 ∧ -1 ≤ x.2.2) (fun x => (fs.length - x.1).toNat) ?_ N (0, 0, -1) ⟨by decide, by show (0 : Int) ≤ _; omega, by decide, by decide, by decide⟩ (by simp; omega)
 ·have k2 : G123x0x9 N fs fs.length 0 0 (-1) = some (szL fs, tmL 0 fs) := by
   refine Eq.trans key ?_
   simp
  unfold G123x0 F123x0
  rw [k2]; rfl
 ·rintro ⟨w, sz, t⟩ kr ⟨h0, h1, h2, h3, h4⟩ ih
  simp only at h0 h1 h2 h3 h4 ih ⊢
  unfold S123x0x9
  by_cases hw : w < fs.length
  ·have hf := h.size _ (getD_mem h0 hw)
   rw [decide_eq_true hw, inB_of h0 hw, drop_at (.i 0) h0 hw]
   simp only [_root_.cond_true, bnd_eq, V123x0x20, F123x0x20]
   rw [isT_eq]
   have e1 : ((fs.getD w.toNat (.i 0)).cell 1).toI = fS (fs.getD w.toNat (.i 0)) := rfl
   rw [e1, wrapI (x := sz + _) (by omega) (by omega), wrapI (x := w + 1) (by omega) (by omega)]
   rw [ih (w + 1, _, _) ⟨by omega, by omega, by simp only; omega, by simp only; omega, by simp only; cases isT (fs.getD w.toNat (.i 0)) <;> cases decide (t < 0) <;> simp <;> omega⟩ (by simp only; omega)]
   simp only [szL, tmL]
   cases ht : isT (fs.getD w.toNat (.i 0)) with
   | true =>
    by_cases hneg : t < 0
    ·simp only [decide_eq_true hneg, _root_.cond_true, decide_eq_false (show ¬ sz < 0 by omega), _root_.cond_false, Option.some.injEq, Prod.mk.injEq, and_true]; omega
    ·simp only [decide_eq_false hneg, _root_.cond_true, _root_.cond_false, Option.some.injEq, Prod.mk.injEq, and_true]; omega
   | false =>
    simp only [_root_.cond_false, Option.some.injEq, Prod.mk.injEq]
    refine ⟨by omega, ?_⟩
    by_cases hneg : t < 0 <;> simp [hneg]
  ·have : w = fs.length := by omega
   subst this
   rw [decide_eq_false hw, drop_end (by omega)]
   simp only [_root_.cond_false, szL, tmL, Int.add_zero, Option.some.injEq, Prod.mk.injEq, true_and]
   by_cases ht : t < 0
   ·rw [decide_eq_true ht]; simp only [_root_.cond_true]; omega
   ·rw [decide_eq_false ht]; rfl
def tmW (n : Int) : Sum Int Unit := bif decide (n < 0) then .inr () else .inl n
theorem G79x0_eq (hN : maxLen < N) (h : FldsOk fs) : G79x0 N fs = some (bif decide (tmL 0 fs < 0) then (0, false) else (tmL 0 fs, true)) := by
 have hm : maxLen = 9223372036854775807 := rfl
 have hl := h.len
 have key := loop_ind (A := Int × Int) (X := Option (Sum Int Unit)) (S := fun x kr => S79x0x9 N fs fs.length x.1 x.2 (fun a b => kr (a, b)) (fun p => some (.inl p)) (fun p => some (.inr p))) (L := fun m x => L79x0x9 N fs fs.length m x.1 x.2 (fun p => some (.inl p)) (fun p => some (.inr p))) (fun m x => rfl)
  (fun x => some (tmW (tmL x.1 (fs.drop x.2.toNat)))) (fun x => 0 ≤ x.2 ∧ x.2 ≤ fs.length ∧ 0 ≤ x.1 ∧ x.1 ≤ 255 * x.2) (fun x => (fs.length - x.2).toNat) ?_ N (0, 0) ⟨by decide, by show (0 : Int) ≤ _; omega, by decide, by decide⟩ (by simp; omega)
 ·have k2 : G79x0x9 N fs fs.length 0 0 = some (tmW (tmL 0 fs)) := by
   refine Eq.trans key ?_
   simp
  unfold G79x0 F79x0
  rw [k2]
  unfold tmW
  cases decide (tmL 0 fs < 0) <;> rfl
 ·rintro ⟨sz, w⟩ kr ⟨h0, h1, h2, h3⟩ ih
  simp only at h0 h1 h2 h3 ih ⊢
  unfold S79x0x9
  by_cases hw : w < fs.length
  ·have hf := h.size _ (getD_mem h0 hw)
   rw [decide_eq_true hw, inB_of h0 hw, drop_at (.i 0) h0 hw]
   simp only [_root_.cond_true, bnd_eq, V132x0_eq]
   have e1 : ((fs.getD w.toNat (.i 0)).cell 1).toI = fS (fs.getD w.toNat (.i 0)) := rfl
   rw [e1, wrapI (x := sz + _) (by omega) (by omega), wrapI (x := w + 1) (by omega) (by omega)]
   simp only [tmL]
   cases ht : isT (fs.getD w.toNat (.i 0)) with
   | true => simp only [_root_.cond_true]; unfold tmW; rw [decide_eq_false (by omega)]; rfl
   | false =>
    simp only [_root_.cond_false]
    exact ih (sz + fS (fs.getD w.toNat (.i 0)), w + 1) ⟨by omega, by omega, by simp only; omega, by simp only; omega⟩ (by simp only; omega)
  ·have : w = fs.length := by omega
   subst this
   rw [decide_eq_false hw, drop_end (by omega)]
   rfl
theorem G126x0_eq (hN : maxLen < N) (h : FldsOk fs) : G126x0 N fs = some (szL fs) := by
 have hm : maxLen = 9223372036854775807 := rfl
 have hl := h.len
 have key := loop_ind (A := Int × Int) (X := Option Int) (S := fun x kr => S126x0x9 N fs fs.length x.1 x.2 (fun a b => kr (a, b)) (fun p => some p)) (L := fun m x => L126x0x9 N fs fs.length m x.1 x.2 (fun p => some p)) (fun m x => rfl)
  (fun x => some (x.1 + szL (fs.drop x.2.toNat))) (fun x => 0 ≤ x.2 ∧ x.2 ≤ fs.length ∧ 0 ≤ x.1 ∧ x.1 ≤ 255 * x.2) (fun x => (fs.length - x.2).toNat) ?_ N (0, 0) ⟨by decide, by show (0 : Int) ≤ _; omega, by decide, by decide⟩ (by simp; omega)
 ·have k2 : G126x0x9 N fs fs.length 0 0 = some (szL fs) := by
   refine Eq.trans key ?_
   simp
  unfold G126x0 F126x0
  rw [k2]; rfl
 ·rintro ⟨sz, w⟩ kr ⟨h0, h1, h2, h3⟩ ih
  simp only at h0 h1 h2 h3 ih ⊢
  unfold S126x0x9
  by_cases hw : w < fs.length
  ·have hf := h.size _ (getD_mem h0 hw)
   rw [decide_eq_true hw, inB_of h0 hw, drop_at (.i 0) h0 hw]
   simp only [_root_.cond_true, bnd_eq]
   have e1 : ((fs.getD w.toNat (.i 0)).cell 1).toI = fS (fs.getD w.toNat (.i 0)) := rfl
   rw [e1, wrapI (x := sz + _) (by omega) (by omega), wrapI (x := w + 1) (by omega) (by omega)]
   rw [ih (sz + fS (fs.getD w.toNat (.i 0)), w + 1) ⟨by omega, by omega, by simp only; omega, by simp only; omega⟩ (by simp only; omega)]
   simp only [szL, Option.some.injEq]; omega
  ·have : w = fs.length := by omega
   subst this
   rw [decide_eq_false hw, drop_end (by omega)]
   simp only [_root_.cond_false, szL, Int.add_zero]
theorem flds_ok : ∀ {fs : List D} {t : Bool}, (∀ f ∈ fs, 0 ≤ fS f ∧ fS f ≤ 255) → (flds t fs).length ≤ fs.length ∧ ∀ f ∈ flds t fs, 0 ≤ fS f ∧ fS f ≤ 255
 | [], _, _ => by simp [flds]
 | f :: r, t, h => by
  have h1 := h f (by simp)
  have h2 : ∀ t, _ := fun t => flds_ok (fs := r) (t := t) fun x hx => h x (by simp [hx])
  simp only [flds]
  cases t && isT f with
  | true => simp only [_root_.cond_true, List.length_cons]; exact ⟨by have := (h2 false).1; omega, (h2 false).2⟩
  | false =>
   simp only [_root_.cond_false, List.length_cons]
   refine ⟨by have := (h2 t).1; omega, fun x hx => ?_⟩
   rcases List.mem_cons.1 hx with rfl | hx
   ·exact h1
   ·exact (h2 t).2 x hx
theorem FldsOk.flds (h : FldsOk fs) (t : Bool) : FldsOk (flds t fs) := ⟨Nat.le_trans (flds_ok h.size).1 h.len, (flds_ok h.size).2⟩
theorem G100x0_eq (hN : maxLen < N) (h : FldsOk fs) (t : Bool) : ∃ nl, G100x0 N fs t = some (nl, flds t fs) := by
 have hm : maxLen = 9223372036854775807 := rfl
 have hl := h.len
 have key := loop_indE (A := Bool × Int × Bool × LD) (X := Option (Bool × LD)) (S := fun x kr => S100x0x12 N fs fs.length x.1 x.2.1 x.2.2.1 x.2.2.2 (fun a b c d => kr (a, b, c, d)) (fun p => some p)) (L := fun m x => L100x0x12 N fs fs.length m x.1 x.2.1 x.2.2.1 x.2.2.2 (fun p => some p)) (fun m x => rfl)
  (fun x r => ∃ nl, r = some (nl, x.2.2.2 ++ Proofs.Ytnnofignhdijiaa.flds x.1 (fs.drop x.2.1.toNat))) (fun x => 0 ≤ x.2.1 ∧ x.2.1 ≤ fs.length ∧ (x.2.2.2.length : Int) ≤ x.2.1) (fun x => (fs.length - x.2.1).toNat) ?_ N (t, 0, true, []) ⟨by show (0 : Int) ≤ 0; omega, by show (0 : Int) ≤ _; omega, by simp⟩ (by simp; omega)
 ·obtain ⟨nl, k2⟩ := key
  have k3 : G100x0x12 N fs fs.length t 0 true [] = some (nl, Proofs.Ytnnofignhdijiaa.flds t fs) := by
   refine Eq.trans k2 ?_
   simp
  refine ⟨nl, ?_⟩
  unfold G100x0 F100x0
  rw [k3]; rfl
 ·rintro ⟨t, w, b, l⟩ kr ⟨h0, h1, h2⟩ ih
  simp only at h0 h1 h2 ih ⊢
  unfold S100x0x12
  by_cases hw : w < fs.length
  ·rw [decide_eq_true hw, inB_of h0 hw, drop_at (.i 0) h0 hw]
   have r1 : decide ((l.length + 1) * 24 ≤ room) = true := decide_eq_true (by unfold room; omega)
   have r2 : decide (l.length + 1 ≤ strMax) = true := decide_eq_true (by unfold strMax; omega)
   have hv : V100x0x19 N t ((fs.getD w.toNat (.i 0)).cell 0).toI ((fs.getD w.toNat (.i 0)).cell 1).toI ((fs.getD w.toNat (.i 0)).cell 2).toI = (t && isT (fs.getD w.toNat (.i 0))) := by
    unfold V100x0x19 F100x0x19
    simp only [bnd_eq, V132x0_eq]
    cases t <;> rfl
   simp only [_root_.cond_true, bnd_eq, hv, r1, r2, Bool.and_self, wrapI (x := w + 1) (by omega) (by omega), Proofs.Ytnnofignhdijiaa.flds]
   cases t && isT (fs.getD w.toNat (.i 0)) with
   | true =>
    simp only [_root_.cond_true]
    exact ih (false, w + 1, b, l) ⟨by simp only; omega, by simp only; omega, by simp only; omega⟩ (by simp only; omega)
   | false =>
    simp only [_root_.cond_false]
    obtain ⟨nl, e⟩ := ih (t, w + 1, false, l ++ [.a [.i (fN (fs.getD w.toNat (.i 0))), .i (fS (fs.getD w.toNat (.i 0))), .i (fT (fs.getD w.toNat (.i 0)))]]) ⟨by simp only; omega, by simp only; omega, by simp; omega⟩ (by simp only; omega)
    exact ⟨nl, by rw [← List.append_cons] at e; exact e⟩
  ·have : w = fs.length := by omega
   subst this
   rw [decide_eq_false hw, drop_end (by omega)]
   exact ⟨b, by simp [Proofs.Ytnnofignhdijiaa.flds]⟩
end
end Go.Proofs.Ytnnofignhdijiaa

/-! Plain laws: the number of bytes; one entry (walk.check, walk.take; the references' entryFault, take). -/
namespace Go.Proofs.Ytnnofignhdijiaa
open Go Go.AM
set_option maxRecDepth 100000
set_option maxHeartbeats 4000000
variable {N : Nat}
theorem or_byte {n b : Nat} (hn : n < 1099511627776) (hb : b < 256) : (bitsV .or .i64 (IntKind.wrap .i64 ((n : Int) * 2 ^ 8)) (IntKind.wrap .i64 (b : Int))).getD 0 = 256 * (n : Int) + b := by
 have e1 : IntKind.wrap .i64 ((n : Int) * 2 ^ 8) = ((n * 256 : Nat) : Int) := by rw [wrapI (by omega) (by omega)]; omega
 have e2 : IntKind.wrap .i64 (b : Int) = (b : Int) := wrapI (by omega) (by omega)
 rw [e1, e2]
 have h64 : IntKind.bits .i64 = 64 := rfl
 have o : (BitVec.ofInt 64 ((n * 256 : Nat) : Int) ||| BitVec.ofInt 64 (b : Int)).toNat = n * 256 + b := by
  rw [BitVec.toNat_or, BitVec.ofInt_natCast, BitVec.ofInt_natCast, BitVec.toNat_ofNat, BitVec.toNat_ofNat, Nat.mod_eq_of_lt (by omega), Nat.mod_eq_of_lt (by omega)]
  have := Nat.shiftLeft_add_eq_or_of_lt (b := b) (i := 8) (by omega) n
  rw [Nat.shiftLeft_eq] at this
  exact this.symm
 show IntKind.wrap .i64 (((BitVec.ofInt 64 ((n * 256 : Nat) : Int) ||| BitVec.ofInt 64 (b : Int)).toNat : Nat) : Int) = _
 rw [o, wrapI (by omega) (by omega)]
 omega
def BytesOk (xs : List D) : Prop := ∀ x ∈ xs, 0 ≤ x.toI ∧ x.toI ≤ 255
def pkB (len : Int) (big : Bool) (i : Int) : Int := bif big then i else len - 1 - i
/-- The number of bytes: so many more, from place i on. -/
def numR (xs : List D) (big : Bool) : Nat → Int → Int → Int
 | 0, _, n => n
 | k + 1, i, n => numR xs big k (i + 1) (256 * n + (xs.getD (pkB xs.length big i).toNat (.i 0)).toI)
def numB (xs : List D) (big : Bool) : Int := numR xs big xs.length 0 0
theorem pow_step {n b i : Int} (h0 : 0 ≤ i) (h1 : 0 ≤ n) (h2 : n < 256 ^ i.toNat) (h3 : 0 ≤ b) (h4 : b ≤ 255) : 0 ≤ 256 * n + b ∧ 256 * n + b < 256 ^ (i + 1).toNat := by
 have e : (i + 1).toNat = i.toNat + 1 := by omega
 rw [e, Int.pow_succ]
 omega
theorem pow_le {n i : Int} (h0 : 0 ≤ i) (h1 : i ≤ 4) (h2 : n < 256 ^ i.toNat) : n < 4294967296 := by
 have : i = 0 ∨ i = 1 ∨ i = 2 ∨ i = 3 ∨ i = 4 := by omega
 rcases this with rfl | rfl | rfl | rfl | rfl <;> simp at h2 <;> omega
theorem getB {xs : List D} (h : BytesOk xs) {i : Int} (h0 : 0 ≤ i) (h1 : i < xs.length) : 0 ≤ (xs.getD i.toNat (.i 0)).toI ∧ (xs.getD i.toNat (.i 0)).toI ≤ 255 := h _ (getD_mem h0 h1)
section
variable {xs : List D}
theorem pkB_in {big : Bool} {i : Int} (h0 : 0 ≤ i) (h1 : i < xs.length) : 0 ≤ pkB xs.length big i ∧ pkB xs.length big i < xs.length := by
 unfold pkB; cases big <;> simp <;> omega
theorem numR_bound (hb : BytesOk xs) (big : Bool) : ∀ (k : Nat) (i n : Int), 0 ≤ i → i + k = xs.length → 0 ≤ n → n < 256 ^ i.toNat → 0 ≤ numR xs big k i n ∧ numR xs big k i n < 256 ^ xs.length
 | 0, i, n, h0, h1, h2, h3 => by
  have : i.toNat = xs.length := by omega
  rw [this] at h3
  exact ⟨h2, h3⟩
 | k + 1, i, n, h0, h1, h2, h3 => by
  obtain ⟨p0, p1⟩ := pkB_in (xs := xs) (big := big) h0 (by omega)
  obtain ⟨b0, b1⟩ := getB hb p0 p1
  obtain ⟨q0, q1⟩ := pow_step h0 h2 h3 b0 b1
  exact numR_bound hb big k (i + 1) _ (by omega) (by omega) q0 q1
theorem numB_bound (hb : BytesOk xs) (big : Bool) (hl : xs.length ≤ 4) : 0 ≤ numB xs big ∧ numB xs big < 4294967296 := by
 obtain ⟨h1, h2⟩ := numR_bound hb big xs.length 0 0 (by omega) (by omega) (by omega) (by simp)
 refine ⟨h1, ?_⟩
 have := pow_le (i := (xs.length : Int)) (by omega) (by omega) (n := numB xs big) (by unfold numB; simpa using h2)
 exact this
theorem G81x0_eq (hN : maxLen < N) (hb : BytesOk xs) (big : Bool) (hl : xs.length ≤ 4) : G81x0 N xs big = some (numB xs big) := by
 have hm : maxLen = 9223372036854775807 := rfl
 have key := loop_ind (A := Int × Int) (X := Option Int) (S := fun x kr => S81x0x9 N xs big xs.length x.1 x.2 (fun a b => kr (a, b)) (fun p => some p)) (L := fun m x => L81x0x9 N xs big xs.length m x.1 x.2 (fun p => some p)) (fun m x => rfl)
  (fun x => some (numR xs big (xs.length - x.2).toNat x.2 x.1)) (fun x => 0 ≤ x.2 ∧ x.2 ≤ xs.length ∧ 0 ≤ x.1 ∧ x.1 < 256 ^ x.2.toNat) (fun x => (xs.length - x.2).toNat) ?_ N (0, 0) ⟨by decide, by show (0 : Int) ≤ _; omega, by decide, by decide⟩ (by simp; omega)
 ·have k2 : G81x0x9 N xs big xs.length 0 0 = some (numB xs big) := by
   refine Eq.trans key ?_
   simp [numB]
  unfold G81x0 F81x0
  rw [k2]; rfl
 ·rintro ⟨n, i⟩ kr ⟨h0, h1, h2, h3⟩ ih
  simp only at h0 h1 h2 h3 ih ⊢
  unfold S81x0x9
  by_cases hw : i < xs.length
  ·obtain ⟨p0, p1⟩ := pkB_in (xs := xs) (big := big) h0 hw
   obtain ⟨b0, b1⟩ := getB hb p0 p1
   obtain ⟨q0, q1⟩ := pow_step h0 h2 h3 b0 b1
   have hn := pow_le h0 (by omega) h3
   have hv : V81x0x23 N i (IntKind.wrap .i64 ((IntKind.wrap .i64 ((xs.length : Int) - 1)) - i)) big = pkB xs.length big i := by
    rw [wrapI (x := (xs.length : Int) - 1) (by omega) (by omega), wrapI (x := (xs.length : Int) - 1 - i) (by omega) (by omega)]
    unfold V81x0x23 F81x0x23 pkB
    cases big <;> rfl
   have ho := or_byte (n := n.toNat) (b := (xs.getD (pkB xs.length big i).toNat (.i 0)).toI.toNat) (by omega) (by omega)
   rw [Int.toNat_of_nonneg h2, Int.toNat_of_nonneg b0] at ho
   rw [decide_eq_true hw]
   simp only [_root_.cond_true, bnd_eq, hv, inB_of p0 p1, ho, wrapI (x := i + 1) (by omega) (by omega)]
   rw [ih (_, i + 1) ⟨by simp only; omega, by simp only; omega, q0, q1⟩ (by simp only; omega)]
   have e : (xs.length - i).toNat = (xs.length - (i + 1)).toNat + 1 := by omega
   rw [e]
   rfl
  ·have : i = xs.length := by omega
   subst this
   rw [decide_eq_false hw]
   simp [numR]
theorem G83x0_eq (hN : maxLen < N) (hb : BytesOk xs) (big : Bool) (hl : xs.length ≤ 4) : G83x0 N xs big = some (numB xs big) := by
 have hm : maxLen = 9223372036854775807 := rfl
 have key := loop_ind (A := Int × Int) (X := Option Int) (S := fun x kr => S83x0x9 N xs big xs.length x.1 x.2 (fun a b => kr (a, b)) (fun p => some p)) (L := fun m x => L83x0x9 N xs big xs.length m x.1 x.2 (fun p => some p)) (fun m x => rfl)
  (fun x => some (numR xs big (xs.length - x.2).toNat x.2 x.1)) (fun x => 0 ≤ x.2 ∧ x.2 ≤ xs.length ∧ 0 ≤ x.1 ∧ x.1 < 256 ^ x.2.toNat) (fun x => (xs.length - x.2).toNat) ?_ N (0, 0) ⟨by decide, by show (0 : Int) ≤ _; omega, by decide, by decide⟩ (by simp; omega)
 ·have k2 : G83x0x9 N xs big xs.length 0 0 = some (numB xs big) := by
   refine Eq.trans key ?_
   simp [numB]
  unfold G83x0 F83x0
  rw [k2]; rfl
 ·rintro ⟨n, i⟩ kr ⟨h0, h1, h2, h3⟩ ih
  simp only at h0 h1 h2 h3 ih ⊢
  unfold S83x0x9
  by_cases hw : i < xs.length
  ·obtain ⟨p0, p1⟩ := pkB_in (xs := xs) (big := big) h0 hw
   obtain ⟨b0, b1⟩ := getB hb p0 p1
   obtain ⟨q0, q1⟩ := pow_step h0 h2 h3 b0 b1
   have hn := pow_le h0 (by omega) h3
   have hv : V83x0x23 N xs i i (!big) = pkB xs.length big i := by
    unfold V83x0x23 F83x0x23 pkB
    rw [wrapI (x := (xs.length : Int) - 1) (by omega) (by omega), wrapI (x := (xs.length : Int) - 1 - i) (by omega) (by omega)]
    cases big <;> rfl
   have ho : IntKind.wrap .i64 ((IntKind.wrap .i64 (256 * n)) + (IntKind.wrap .i64 (xs.getD (pkB xs.length big i).toNat (.i 0)).toI)) = 256 * n + (xs.getD (pkB xs.length big i).toNat (.i 0)).toI := by
    rw [wrapI (x := 256 * n) (by omega) (by omega), wrapI (x := (xs.getD (pkB xs.length big i).toNat (.i 0)).toI) (by omega) (by omega), wrapI (by omega) (by omega)]
   rw [decide_eq_true hw]
   simp only [_root_.cond_true, bnd_eq, hv, inB_of p0 p1, ho, wrapI (x := i + 1) (by omega) (by omega)]
   rw [ih (_, i + 1) ⟨by simp only; omega, by simp only; omega, q0, q1⟩ (by simp only; omega)]
   have e : (xs.length - i).toNat = (xs.length - (i + 1)).toNat + 1 := by omega
   rw [e]
   rfl
  ·have : i = xs.length := by omega
   subst this
   rw [decide_eq_false hw]
   simp [numR]
end
theorem missing4 : G124x0 N 4 false = some 4294967295 := by
 unfold G124x0 F124x0
 have e1 : IntKind.wrap .i64 (8 * 4) = 32 := by decide
 rw [e1]
 have e2 : IntKind.wrap .i64 (1 * 2 ^ (min (32 : Int).toNat 64)) = 4294967296 := by decide
 have e3 : IntKind.wrap .i64 ((4294967296 : Int) - 1) = 4294967295 := by decide
 simp only [_root_.cond_false, bnd_eq, e2, e3]
 rfl
/-! ### One entry -/
/-- The slots as the program and the reference keep them; k: how many entries came. -/
structure Slots (p s : D) : Prop where
 known : ∀ j : Nat, j < 16 → (p.cell (0 + j * 6)).toB = (s.cell (0 + j * 1)).toB
 defs : ∀ j : Nat, j < 16 → (p.cell (0 + j * 6)).toB = true → FldsOk (p.cell (3 + j * 6)).items ∧ (p.cell (1 + j * 6)).toB = (s.cell (16 + j * 3)).toB ∧ (p.cell (2 + j * 6)).toI = (s.cell (17 + j * 3)).toI ∧
  (p.cell (3 + j * 6)).items = (s.cell (18 + j * 3)).items ∧ (p.cell (4 + j * 6)).toI = szL (p.cell (3 + j * 6)).items ∧ (p.cell (5 + j * 6)).toI = tmL 0 (p.cell (3 + j * 6)).items
structure Sim (p s : D) (k : Int) : Prop extends Slots p s where
 last : (p.cell 96).toI = (s.cell 64).toI
 lo : -1 ≤ (p.cell 96).toI
 hi : (p.cell 96).toI ≤ 4294967295 + 32 * k
/-- An entry's lengths and bytes are possible. -/
structure EntL (ds data : List D) : Prop where
 d : ds.length ≤ maxLen
 b : data.length ≤ maxLen
 f : ∀ x ∈ ds, (x.cell 2).items.length ≤ maxLen
 y : BytesOk data
def entE (kind slot off : Int) (ds data : List D) (known : Bool) (size time last : Int) : Int :=
 bif !inI kind 1 3 then 7 else bif !inI slot 0 (bif kind == 3 then 3 else 15) || !inI off 0 (bif kind == 3 then 31 else 0) then 9 else
 bif kind == 1 then (bif ((ds.length : Int) != 1) || decide ((data.length : Int) > 0) then 2 else defE ((ds.getD 0 (.i 0)).cell 1).toI ((ds.getD 0 (.i 0)).cell 2).items) else
 bif (ds.length : Int) != 0 then 2 else bif !known || ((kind == 3) && (decide (time < 0) || decide (last < 0))) then 11 else bif (data.length : Int) != (bif kind == 3 then size - 4 else size) then 2 else 0
section
variable {kind slot off : Int} {ds data : List D} {p s : D} {k : Int}
theorem slot_in (h : inI slot 0 (bif kind == 3 then 3 else 15) = true) : inB slot 16 = true ∧ slot.toNat < 16 := by
 unfold inI at h
 cases hk : kind == 3 <;> rw [hk] at h <;> simp at h <;> exact ⟨inB_of (by omega) (by omega), by omega⟩
theorem G71x0_eq (hN : maxLen < N) (hs : Sim p s k) (he : EntL ds data) : G71x0 N kind slot off ds data p = some (entE kind slot off ds data (p.cell (0 + slot.toNat * 6)).toB (p.cell (4 + slot.toNat * 6)).toI (p.cell (5 + slot.toNat * 6)).toI (p.cell 96).toI) := by
 have hm : maxLen = 9223372036854775807 := rfl
 unfold G71x0 F71x0 entE V71x0x14 F71x0x14 V71x0x20 F71x0x20 V71x0x28 F71x0x28 V71x0x62 F71x0x62
 simp only [bnd_eq, V52x0_eq]
 cases h1 : inI kind 1 3 with
 | false => rfl
 | true =>
 have e14 : (bif kind == 3 then ((3 : Int), (31 : Int)) else (15, 0)) = ((bif kind == 3 then 3 else 15), (bif kind == 3 then 31 else 0)) := by cases kind == 3 <;> rfl
 rw [e14]
 simp only [Bool.not_true, _root_.cond_false]
 cases h2 : inI slot 0 (bif kind == 3 then 3 else 15) with
 | false => rfl
 | true =>
 obtain ⟨i1, i2⟩ := slot_in h2
 cases h3 : inI off 0 (bif kind == 3 then 31 else 0) with
 | false => rfl
 | true =>
 simp only [Bool.not_true, _root_.cond_false, Bool.or_self]
 by_cases hk : kind = 1
 ·subst hk
  simp only [beq_self_eq_true, _root_.cond_true]
  cases h4 : ((ds.length : Int) != 1) with
  | true => rfl
  | false =>
   have hl : ds.length = 1 := by simp at h4; omega
   cases decide ((data.length : Int) > 0) with
   | true => rfl
   | false =>
    have hmem : ds.getD 0 (.i 0) ∈ ds := getD_mem (w := 0) (by omega) (by omega)
    simp only [_root_.cond_false, Bool.or_self]
    rw [inB_of (by omega) (by omega), G122x0_eq hN _ (he.f _ hmem)]
    rfl
 ·have hk1 : (kind == 1) = false := by simpa using hk
  rw [hk1]
  simp only [_root_.cond_false]
  cases h4 : ((ds.length : Int) != 0) with
  | true => rfl
  | false =>
   simp only [_root_.cond_false, i1, _root_.cond_true]
   cases hkn : (p.cell (0 + slot.toNat * 6)).toB with
   | false => rfl
   | true =>
    obtain ⟨d1, _, _, _, d5, d6⟩ := hs.defs _ i2 hkn
    have hb := szL_bound d1.size
    have hl := d1.len
    cases hk3 : kind == 3 with
    | false =>
     simp only [Bool.not_true, _root_.cond_false, Bool.false_and, Bool.or_self]
     cases ((data.length : Int) != (p.cell (4 + slot.toNat * 6)).toI) <;> rfl
    | true =>
     simp only [Bool.not_true, _root_.cond_false, _root_.cond_true, Bool.true_and, Bool.false_or]
     cases decide ((p.cell (5 + slot.toNat * 6)).toI < 0) with
     | true => rfl
     | false =>
      cases decide ((p.cell 96).toI < 0) with
      | true => rfl
      | false =>
       simp only [_root_.cond_false, Bool.or_self]
       rw [wrapI (by omega) (by omega)]
       cases ((data.length : Int) != (p.cell (4 + slot.toNat * 6)).toI - 4) <;> rfl
theorem G73x0_eq (hN : maxLen < N) (hs : Sim p s k) (he : EntL ds data) : G73x0 N kind slot off ds data s = some (entE kind slot off ds data (p.cell (0 + slot.toNat * 6)).toB (p.cell (4 + slot.toNat * 6)).toI (p.cell (5 + slot.toNat * 6)).toI (p.cell 96).toI) := by
 have hm : maxLen = 9223372036854775807 := rfl
 unfold G73x0 F73x0 entE V73x0x17 F73x0x17 V73x0x19 F73x0x19
 simp only [bnd_eq, V57x0_eq]
 cases h1 : inI kind 1 3 with
 | false => rfl
 | true =>
 have e14 : (bif kind == 3 then ((3 : Int), (31 : Int)) else (15, 0)) = ((bif kind == 3 then 3 else 15), (bif kind == 3 then 31 else 0)) := by cases kind == 3 <;> rfl
 rw [e14]
 simp only [Bool.not_true, _root_.cond_false]
 cases h2 : inI slot 0 (bif kind == 3 then 3 else 15) with
 | false => rfl
 | true =>
 obtain ⟨i1, i2⟩ := slot_in h2
 cases h3 : inI off 0 (bif kind == 3 then 31 else 0) with
 | false => rfl
 | true =>
 simp only [Bool.not_true, _root_.cond_false, Bool.or_self]
 by_cases hk : kind = 1
 ·subst hk
  simp only [beq_self_eq_true, _root_.cond_true]
  cases h4 : ((ds.length : Int) != 1) with
  | true => rfl
  | false =>
   have hl : ds.length = 1 := by simp at h4; omega
   cases decide ((data.length : Int) > 0) with
   | true => rfl
   | false =>
    have hmem : ds.getD 0 (.i 0) ∈ ds := getD_mem (w := 0) (by omega) (by omega)
    simp only [_root_.cond_false, Bool.or_self]
    rw [inB_of (by omega) (by omega), G125x0_eq hN _ (he.f _ hmem)]
    rfl
 ·have hk1 : (kind == 1) = false := by simpa using hk
  have e0 : decide ((ds.length : Int) > 0) = ((ds.length : Int) != 0) := by rw [Bool.eq_iff_iff]; simp only [decide_eq_true_eq, bne_iff_ne]; omega
  rw [hk1, e0]
  simp only [_root_.cond_false]
  cases h4 : ((ds.length : Int) != 0) with
  | true => rfl
  | false =>
   simp only [_root_.cond_false, i1, _root_.cond_true, ← hs.known _ i2]
   cases hkn : (p.cell (0 + slot.toNat * 6)).toB with
   | false => rfl
   | true =>
    obtain ⟨d1, _, _, d4, d5, d6⟩ := hs.defs _ i2 hkn
    rw [← d4, ← hs.last, d5, d6, G79x0_eq hN d1]
    obtain ⟨nl, hf⟩ := G100x0_eq hN d1 (kind == 3)
    rw [hf]
    simp only [Option.isSome_some, getD_some, _root_.cond_true, G126x0_eq hN (d1.flds _)]
    have z := szL_flds (a := 0) (by omega) d1.size
    cases hk3 : kind == 3 with
    | false =>
     simp only [Bool.not_true, _root_.cond_false, Bool.false_and, Bool.or_self, szL_flds_false]
     cases ((data.length : Int) != szL (p.cell (3 + slot.toNat * 6)).items) <;> rfl
    | true =>
     by_cases ht : tmL 0 (p.cell (3 + slot.toNat * 6)).items < 0
     ·simp only [decide_eq_true ht, _root_.cond_true]; rfl
     ·simp only [decide_eq_false ht, _root_.cond_false, _root_.cond_true, Bool.not_true, Bool.true_and, Bool.false_or, z.2 (by omega)]
      cases decide ((p.cell 96).toI < 0) with
      | true => rfl
      | false =>
       simp only [_root_.cond_false]
       cases ((data.length : Int) != szL (p.cell (3 + slot.toNat * 6)).items - 4) <;> rfl
end
end Go.Proofs.Ytnnofignhdijiaa

/-! Plain laws: an entry is taken (walk.take and the reference's take do the same). -/
namespace Go.Proofs.Ytnnofignhdijiaa
open Go Go.AM
set_option maxRecDepth 100000
set_option maxHeartbeats 4000000
variable {N : Nat}
structure EntOk (kind slot off : Int) (ds data : List D) (known : Bool) (size time last : Int) : Prop where
 k : 1 ≤ kind ∧ kind ≤ 3
 s : inB slot 16 = true ∧ slot.toNat < 16
 d : kind = 1 → ds.length = 1 ∧ defE ((ds.getD 0 (.i 0)).cell 1).toI ((ds.getD 0 (.i 0)).cell 2).items = 0
 n : kind ≠ 1 → known = true ∧ ds.length = 0
 h : kind = 3 → 0 ≤ time ∧ 0 ≤ last ∧ 0 ≤ off ∧ off ≤ 31 ∧ (data.length : Int) = size - 4
 t : kind = 2 → (data.length : Int) = size
section
variable {kind slot off : Int} {ds data : List D} {p s : D} {k : Int}
theorem entE_ok {known : Bool} {size time last : Int} (h : entE kind slot off ds data known size time last = 0) : EntOk kind slot off ds data known size time last := by
 unfold entE at h
 cases h1 : inI kind 1 3 with
 | false => rw [h1] at h; exact absurd (show (7 : Int) = 0 from h) (by decide)
 | true =>
 cases h2 : inI slot 0 (bif kind == 3 then 3 else 15) with
 | false => rw [h1, h2] at h; exact absurd (show (9 : Int) = 0 from h) (by decide)
 | true =>
 cases h3 : inI off 0 (bif kind == 3 then 31 else 0) with
 | false => rw [h1, h2, h3] at h; exact absurd (show (9 : Int) = 0 from h) (by decide)
 | true =>
 rw [h1, h2, h3] at h
 simp only [Bool.not_true, _root_.cond_false, Bool.or_self] at h
 have hkr : 1 ≤ kind ∧ kind ≤ 3 := by unfold inI at h1; simpa using h1
 by_cases hk : kind = 1
 ·subst hk
  simp only [beq_self_eq_true, _root_.cond_true] at h
  cases h4 : ((ds.length : Int) != 1) || decide ((data.length : Int) > 0) with
  | true => rw [h4] at h; exact absurd (show (2 : Int) = 0 from h) (by decide)
  | false =>
   rw [h4] at h
   simp only [Bool.or_eq_false_iff, bne_eq_false_iff_eq] at h4
   exact ⟨hkr, slot_in h2, fun _ => ⟨by omega, h⟩, fun hn => absurd rfl hn, fun h => by omega, fun h => by omega⟩
 ·have hk1 : (kind == 1) = false := by simpa using hk
  rw [hk1] at h
  simp only [_root_.cond_false] at h
  cases h4 : ((ds.length : Int) != 0) with
  | true => rw [h4] at h; exact absurd (show (2 : Int) = 0 from h) (by decide)
  | false =>
  rw [h4] at h
  simp only [_root_.cond_false] at h
  cases h5 : !known || ((kind == 3) && (decide (time < 0) || decide (last < 0))) with
  | true => rw [h5] at h; exact absurd (show (11 : Int) = 0 from h) (by decide)
  | false =>
  rw [h5] at h
  simp only [_root_.cond_false] at h
  cases h6 : ((data.length : Int) != (bif kind == 3 then size - 4 else size)) with
  | true => rw [h6] at h; exact absurd (show (2 : Int) = 0 from h) (by decide)
  | false =>
  simp only [bne_eq_false_iff_eq] at h4 h6
  simp only [Bool.or_eq_false_iff, Bool.not_eq_false'] at h5
  refine ⟨hkr, slot_in h2, fun h => absurd h hk, fun _ => ⟨h5.1, by omega⟩, fun h3' => ?_, fun h2' => ?_⟩
  ·subst h3'
   simp at h3 h5 h6
   unfold inI at h3
   simp at h3
   omega
  ·subst h2'
   simpa using h6
theorem put6 {a : Nat} {x0 x1 x2 x3 x4 x5 : D} (j : Nat) : let q := (((((p.put (0 + a * 6) x0).put (1 + a * 6) x1).put (2 + a * 6) x2).put (3 + a * 6) x3).put (4 + a * 6) x4).put (5 + a * 6) x5
  q.cell (0 + j * 6) = (if j = a then x0 else p.cell (0 + j * 6)) ∧ q.cell (1 + j * 6) = (if j = a then x1 else p.cell (1 + j * 6)) ∧ q.cell (2 + j * 6) = (if j = a then x2 else p.cell (2 + j * 6)) ∧
  q.cell (3 + j * 6) = (if j = a then x3 else p.cell (3 + j * 6)) ∧ q.cell (4 + j * 6) = (if j = a then x4 else p.cell (4 + j * 6)) ∧ q.cell (5 + j * 6) = (if j = a then x5 else p.cell (5 + j * 6)) := by
 simp only [cell_put]
 by_cases h : j = a
 ·subst h
  simp
 ·simp only [if_neg h]
  refine ⟨?_, ?_, ?_, ?_, ?_, ?_⟩ <;> rw [if_neg (by omega), if_neg (by omega), if_neg (by omega), if_neg (by omega), if_neg (by omega), if_neg (by omega)]
theorem put6_last {a : Nat} {x0 x1 x2 x3 x4 x5 : D} (ha : a < 16) : ((((((p.put (0 + a * 6) x0).put (1 + a * 6) x1).put (2 + a * 6) x2).put (3 + a * 6) x3).put (4 + a * 6) x4).put (5 + a * 6) x5).cell 96 = p.cell 96 := by
 simp only [cell_put]
 rw [if_neg (by omega), if_neg (by omega), if_neg (by omega), if_neg (by omega), if_neg (by omega), if_neg (by omega)]
theorem put4 {a : Nat} {x0 x1 x2 x3 : D} (ha : a < 16) (j : Nat) (hj : j < 16) : let q := (((s.put (0 + a * 1) x0).put (16 + a * 3) x1).put (17 + a * 3) x2).put (18 + a * 3) x3
  q.cell (0 + j * 1) = (if j = a then x0 else s.cell (0 + j * 1)) ∧ q.cell (16 + j * 3) = (if j = a then x1 else s.cell (16 + j * 3)) ∧ q.cell (17 + j * 3) = (if j = a then x2 else s.cell (17 + j * 3)) ∧
  q.cell (18 + j * 3) = (if j = a then x3 else s.cell (18 + j * 3)) ∧ q.cell 64 = s.cell 64 := by
 simp only [cell_put]
 refine ⟨?_, ?_, ?_, ?_, ?_⟩
 ·rw [if_neg (by omega), if_neg (by omega), if_neg (by omega)]
  by_cases h : j = a
  ·rw [if_pos (by omega), if_pos h]
  ·rw [if_neg (by omega), if_neg h]
 ·rw [if_neg (by omega), if_neg (by omega)]
  by_cases h : j = a
  ·rw [if_pos (by omega), if_pos h]
  ·rw [if_neg (by omega), if_neg (by omega), if_neg h]
 ·rw [if_neg (by omega)]
  by_cases h : j = a
  ·rw [if_pos (by omega), if_pos h]
  ·rw [if_neg (by omega), if_neg (by omega), if_neg (by omega), if_neg h]
 ·by_cases h : j = a
  ·rw [if_pos (by omega), if_pos h]
  ·rw [if_neg (by omega), if_neg (by omega), if_neg (by omega), if_neg (by omega), if_neg h]
 ·rw [if_neg (by omega), if_neg (by omega), if_neg (by omega), if_neg (by omega)]
/-- A slot gets a definition. -/
theorem slots_put (hs : Slots p s) {a : Nat} (i2 : a < 16) {arch : Bool} {g : Int} {nl nl2 : Bool} {fs : List D} (hf : FldsOk fs) :
  Slots ((((((p.put (0 + a * 6) (.b true)).put (1 + a * 6) (.b arch)).put (2 + a * 6) (.i g)).put (3 + a * 6) (.l nl fs)).put (4 + a * 6) (.i (szL fs))).put (5 + a * 6) (.i (tmL 0 fs)))
   ((((s.put (0 + a * 1) (.b true)).put (16 + a * 3) (.b arch)).put (17 + a * 3) (.i g)).put (18 + a * 3) (.l nl2 fs)) := by
 refine ⟨fun j hj => ?_, fun j hj hkn => ?_⟩
 ·rw [(put6 j).1, (put4 i2 j hj).1]
  by_cases h : j = a
  ·rw [if_pos h, if_pos h]
  ·rw [if_neg h, if_neg h]; exact hs.known j hj
 ·obtain ⟨a0, a1, a2, a3, a4, a5⟩ := put6 (p := p) (a := a) (x0 := .b true) (x1 := .b arch) (x2 := .i g) (x3 := .l nl fs) (x4 := .i (szL fs)) (x5 := .i (tmL 0 fs)) j
  obtain ⟨b0, b1, b2, b3, _⟩ := put4 (s := s) (x0 := .b true) (x1 := .b arch) (x2 := .i g) (x3 := .l nl2 fs) i2 j hj
  rw [a0] at hkn
  rw [a1, a2, a3, a4, a5, b1, b2, b3]
  by_cases h : j = a
  ·simp only [if_pos h]
   refine ⟨hf, ?_, ?_, ?_, ?_, ?_⟩ <;> first | trivial | rfl
  ·simp only [if_neg h] at hkn ⊢
   exact hs.defs j hj hkn
/-- Another last time. -/
theorem Sim.last' (h : Sim p s k) {t : Int} (h0 : -1 ≤ t) (h1 : t ≤ 4294967295 + 32 * (k + 1)) : Sim (p.put 96 (.i t)) (s.put 64 (.i t)) (k + 1) := by
 have c1 : ∀ c j : Nat, c < 6 → j < 16 → (p.put 96 (.i t)).cell (c + j * 6) = p.cell (c + j * 6) := fun c j hc hj => by rw [cell_put, if_neg (by omega)]
 have c2 : ∀ j : Nat, j < 16 → (s.put 64 (.i t)).cell (0 + j * 1) = s.cell (0 + j * 1) ∧ (s.put 64 (.i t)).cell (16 + j * 3) = s.cell (16 + j * 3) ∧ (s.put 64 (.i t)).cell (17 + j * 3) = s.cell (17 + j * 3) ∧ (s.put 64 (.i t)).cell (18 + j * 3) = s.cell (18 + j * 3) := fun j hj => by
  refine ⟨?_, ?_, ?_, ?_⟩ <;> rw [cell_put, if_neg (by omega)]
 refine ⟨⟨fun j hj => ?_, fun j hj hk => ?_⟩, ?_, ?_, ?_⟩
 ·rw [c1 0 j (by omega) hj, (c2 j hj).1]; exact h.known j hj
 ·rw [c1 0 j (by omega) hj] at hk
  rw [c1 1 j (by omega) hj, c1 2 j (by omega) hj, c1 3 j (by omega) hj, c1 4 j (by omega) hj, c1 5 j (by omega) hj, (c2 j hj).2.1, (c2 j hj).2.2.1, (c2 j hj).2.2.2]
  exact h.defs j hj hk
 ·simp [cell_put, D.toI]
 ·simpa [cell_put, D.toI] using h0
 ·simpa [cell_put, D.toI] using h1
theorem Slots.last (h : Slots p s) {x : D} : Slots p (s.put 64 x) := by
 have c2 : ∀ j : Nat, j < 16 → (s.put 64 x).cell (0 + j * 1) = s.cell (0 + j * 1) ∧ (s.put 64 x).cell (16 + j * 3) = s.cell (16 + j * 3) ∧ (s.put 64 x).cell (17 + j * 3) = s.cell (17 + j * 3) ∧ (s.put 64 x).cell (18 + j * 3) = s.cell (18 + j * 3) := fun j hj => by
  refine ⟨?_, ?_, ?_, ?_⟩ <;> rw [cell_put, if_neg (by omega)]
 refine ⟨fun j hj => ?_, fun j hj hk => ?_⟩
 ·rw [(c2 j hj).1]; exact h.known j hj
 ·rw [(c2 j hj).2.1, (c2 j hj).2.2.1, (c2 j hj).2.2.2]
  exact h.defs j hj hk
theorem Sim.more (h : Sim p s k) : Sim p s (k + 1) := ⟨h.toSlots, h.last, h.lo, by have := h.hi; omega⟩
theorem slice_ok {t : Int} (h0 : 0 ≤ t) (h1 : t + 4 ≤ data.length) (hl : data.length ≤ maxLen) (hb : BytesOk data) : IntKind.wrap .i64 (t + 4) = t + 4 ∧ ((data.take (t + 4).toNat).drop t.toNat).length = 4 ∧ BytesOk ((data.take (t + 4).toNat).drop t.toNat) := by
 have hm : maxLen = 9223372036854775807 := rfl
 exact ⟨wrapI (by omega) (by omega), by simp; omega, fun x hx => hb x (List.mem_of_mem_take (List.mem_of_mem_drop hx))⟩
theorem take_sim (hN : maxLen < N) (hs : Sim p s k) (he : EntL ds data) (h0 : 0 ≤ k) (h1 : k ≤ 100000) (hE : EntOk kind slot off ds data (p.cell (0 + slot.toNat * 6)).toB (p.cell (4 + slot.toNat * 6)).toI (p.cell (5 + slot.toNat * 6)).toI (p.cell 96).toI) :
  ∃ t p' s', G72x0 N kind slot off ds data p = some (t, p') ∧ G74x0 N kind slot off ds data s = some (t, s') ∧ Sim p' s' (k + 1) ∧ -1 ≤ t ∧ t ≤ 4294967295 + 32 * (k + 1) ∧ (kind ≠ 1 → ∀ q, Slots q s → Slots q s') := by
 have hm : maxLen = 9223372036854775807 := rfl
 obtain ⟨i1, i2⟩ := hE.s
 unfold G72x0 F72x0 G72x0x15014 F72x0x15014 G74x0 F74x0
 rw [i1]
 by_cases hk1 : kind = 1
 ·subst hk1
  obtain ⟨d1, d2⟩ := hE.d rfl
  have hf := defE_ok d2
  have q1 := G123x0_eq hN hf
  simp only [beq_self_eq_true, _root_.cond_true, inB_of (i := 0) (n := ds.length) (by omega) (by omega), bnd_eq, q1, Option.isSome_some, getD_some]
  have e1 : decide ((-1 : Int) ≥ 0) = false := by decide
  rw [e1]
  refine ⟨_, _, _, rfl, rfl, ?_, by omega, by omega, fun h => absurd rfl h⟩
  show Sim ((((((p.put (0 + slot.toNat * 6) (.b true)).put (1 + slot.toNat * 6) (.b ((ds.getD 0 (.i 0)).cell 0).toB)).put (2 + slot.toNat * 6) (.i ((ds.getD 0 (.i 0)).cell 1).toI)).put (3 + slot.toNat * 6) (.l ((ds.getD 0 (.i 0)).cell 2).isNil ((ds.getD 0 (.i 0)).cell 2).items)).put (4 + slot.toNat * 6) (.i (szL ((ds.getD 0 (.i 0)).cell 2).items))).put (5 + slot.toNat * 6) (.i (tmL 0 ((ds.getD 0 (.i 0)).cell 2).items))) _ (k + 1)
  refine ⟨slots_put hs.toSlots i2 hf, ?_, ?_, ?_⟩
  ·rw [put6_last i2, (put4 i2 0 (by omega)).2.2.2.2]; exact hs.last
  ·rw [put6_last i2]; exact hs.lo
  ·rw [put6_last i2]; have := hs.hi; omega
 ·have hk1' : (kind == 1) = false := by simpa using hk1
  obtain ⟨kn, _⟩ := hE.n hk1
  obtain ⟨d1, d2, d3, d4, d5, d6⟩ := hs.defs _ i2 kn
  unfold G72x0x21020 F72x0x21020
  rw [hk1']
  simp only [_root_.cond_false, bnd_eq, ← hs.last, ← d4, ← d2]
  have hlo := hs.lo
  have hhi := hs.hi
  by_cases hk3 : kind = 3
  ·subst hk3
   obtain ⟨t0, l0, o0, o1, _⟩ := hE.h rfl
   have m0 : (p.cell 96).toI.tmod 32 = (p.cell 96).toI % 32 := Int.tmod_eq_emod_of_nonneg l0
   have w1 : IntKind.wrap .i64 (off - (p.cell 96).toI.tmod 32) = off - (p.cell 96).toI.tmod 32 := wrapI (by omega) (by omega)
   have w2 : IntKind.wrap .i64 (off - (p.cell 96).toI.tmod 32 + 32) = off - (p.cell 96).toI.tmod 32 + 32 := wrapI (by omega) (by omega)
   have m1 : (off - (p.cell 96).toI.tmod 32 + 32).tmod 32 = (off - (p.cell 96).toI.tmod 32 + 32) % 32 := Int.tmod_eq_emod_of_nonneg (by omega)
   have w3 : IntKind.wrap .i64 ((p.cell 96).toI + (off - (p.cell 96).toI.tmod 32 + 32).tmod 32) = (p.cell 96).toI + (off - (p.cell 96).toI.tmod 32 + 32).tmod 32 := wrapI (by omega) (by omega)
   simp only [beq_self_eq_true, _root_.cond_true, w1, w2, w3, Option.isSome_some, getD_some, V72x0x38, F72x0x38]
   rw [decide_eq_true (by omega)]
   refine ⟨_, _, _, rfl, ?_, hs.last' (t := (p.cell 96).toI + (off - (p.cell 96).toI.tmod 32 + 32).tmod 32) (by omega) (by omega), by omega, by omega, fun _ q hq => hq.last⟩
   rw [cell_put, if_pos rfl]
   rfl
  ·have hk2 : kind = 2 := by have := hE.k; omega
   subst hk2
   have hlen := hE.t rfl
   unfold G72x0x26 F72x0x26
   rw [d6, G79x0_eq hN d1]
   have tb := tmL_bound (a := 0) (by omega) d1.size
   by_cases ht : tmL 0 (p.cell (3 + slot.toNat * 6)).items < 0
   ·rw [decide_eq_true ht, decide_eq_false (by omega : ¬ tmL 0 (p.cell (3 + slot.toNat * 6)).items ≥ 0)]
    have e1 : decide ((-1 : Int) ≥ 0) = false := by decide
    refine ⟨-1, p, s, ?_, ?_, hs.more, by omega, by omega, fun _ q hq => hq⟩
    ·rfl
    ·rfl
   ·rw [decide_eq_false ht, decide_eq_true (by omega : tmL 0 (p.cell (3 + slot.toNat * 6)).items ≥ 0)]
    have h4 : tmL 0 (p.cell (3 + slot.toNat * 6)).items + 4 ≤ data.length := by rw [hlen, d5]; omega
    generalize tmL 0 (p.cell (3 + slot.toNat * 6)).items = tm at ht h4 ⊢
    obtain ⟨s1, s2, s3⟩ := slice_ok (by omega) h4 he.b he.y
    have nb := numB_bound s3 (p.cell (1 + slot.toNat * 6)).toB (by omega)
    have c0 : decide ((0 : Int) ≤ tm) = true := decide_eq_true (by omega)
    have c1 : decide (tm ≤ tm + 4) = true := decide_eq_true (by omega)
    have c2 : decide (tm + 4 ≤ (data.length : Int)) = true := decide_eq_true (by omega)
    have q1 := G81x0_eq hN s3 (p.cell (1 + slot.toNat * 6)).toB (by omega)
    have q2 := G83x0_eq hN s3 (p.cell (1 + slot.toNat * 6)).toB (by omega)
    have e3 : ((2 : Int) == 3) = false := by decide
    simp only [_root_.cond_true, _root_.cond_false, bnd_eq, Bool.and_self, s1, c0, c1, c2, q1, q2, missing4, Option.isSome_some, getD_some, V72x0x32, F72x0x32, Bool.not_true, e3, V72x0x38, F72x0x38]
    generalize numB ((data.take (tm + 4).toNat).drop tm.toNat) (p.cell (1 + slot.toNat * 6)).toB = n at nb ⊢
    by_cases hn : n = 4294967295
    ·subst hn
     exact ⟨-1, p, s, rfl, rfl, hs.more, by omega, by omega, fun _ q hq => hq⟩
    ·have e4 : (n != 4294967295) = true := by simpa using hn
     have e5 : (n == 4294967295) = false := by simpa using hn
     rw [e4, e5]
     simp only [_root_.cond_true, _root_.cond_false]
     rw [decide_eq_true (by omega)]
     exact ⟨n, _, _, rfl, rfl, hs.last' (by omega) (by omega), by omega, by omega, fun _ q hq => hq.last⟩
end
end Go.Proofs.Ytnnofignhdijiaa

/-! Plain laws: CheckFile and Times of the program and of the reference are the same. -/
namespace Go.Proofs.Ytnnofignhdijiaa
open Go Go.AM
set_option maxRecDepth 100000
set_option maxHeartbeats 4000000
variable {N : Nat}
/-- An entry's lengths and bytes are possible. -/
def EntD (x : D) : Prop := EntL (x.cell 3).items (x.cell 4).items
/-- The reference's state at the beginning. -/
def zeroS : D := .a (List.replicate 16 (.b false) ++ (List.replicate 16 [D.b false, D.i 0, D.l true []]).flatten ++ [.i (-1)])
theorem zero_slots (p : D) (hp : (List.range 16).all (fun j => !(p.cell (0 + j * 6)).toB && !(zeroS.cell (0 + j * 1)).toB) = true) : Slots p zeroS := by
 have h : ∀ j : Nat, j < 16 → (p.cell (0 + j * 6)).toB = false ∧ (zeroS.cell (0 + j * 1)).toB = false := fun j hj => by
  have := List.all_eq_true.1 hp j (List.mem_range.2 hj)
  simpa using this
 exact ⟨fun j hj => by rw [(h j hj).1, (h j hj).2], fun j hj hk => by rw [(h j hj).1] at hk; exact absurd hk (by decide)⟩
theorem zero70 : Sim (V70x0 N) zeroS 0 := ⟨zero_slots _ (by kernel_rfl), by kernel_rfl, by rw [show ((V70x0 N).cell 96).toI = -1 by kernel_rfl]; decide, by rw [show ((V70x0 N).cell 96).toI = -1 by kernel_rfl]; decide⟩
section
variable {es : List D}
theorem check_loop (hN : maxLen < N) (hes : ∀ x ∈ es, EntD x) (hl : es.length ≤ 50000) : ∀ (m : Nat) (i : Int) (p s : D), 0 ≤ i → i ≤ es.length → (es.length - i).toNat < m → Sim p s i →
  ∃ r : Sum Int Unit, L22x0x15 N es es.length m i p (fun p => some (.inl p)) (fun p => some (.inr p)) = some r ∧ L23x0x15 N es es.length m i s (fun p => some (.inl p)) (fun p => some (.inr p)) = some r := by
 intro m
 induction m with
 | zero => intro i p s _ _ h; omega
 | succ m ih =>
  intro i p s h0 h1 hm hs
  unfold L22x0x15 L23x0x15 S22x0x15 S23x0x15
  by_cases hi : i < es.length
  ·have he : EntD _ := hes _ (getD_mem (fs := es) h0 hi)
   rw [decide_eq_true hi, inB_of h0 hi, G71x0_eq hN hs he, G73x0_eq hN hs he]
   simp only [_root_.cond_true, bnd_eq, Option.isSome_some, getD_some]
   generalize hE : entE ((es.getD i.toNat (.i 0)).cell 0).toI ((es.getD i.toNat (.i 0)).cell 1).toI ((es.getD i.toNat (.i 0)).cell 2).toI ((es.getD i.toNat (.i 0)).cell 3).items ((es.getD i.toNat (.i 0)).cell 4).items _ _ _ _ = e
   by_cases hz : e = 0
   ·subst hz
    obtain ⟨t, p', s', q1, q2, hs', _, _, _⟩ := take_sim hN hs he h0 (by omega) (entE_ok hE)
    have e0 : ((0 : Int) != 0) = false := by decide
    rw [e0, q1, q2]
    simp only [_root_.cond_false, Option.isSome_some, _root_.cond_true, getD_some, wrapI (x := i + 1) (by omega) (by omega)]
    exact ih (i + 1) p' s' (by omega) (by omega) (by omega) hs'
   ·have e0 : (e != 0) = true := by simpa using hz
    rw [e0]
    exact ⟨.inl e, rfl, rfl⟩
  ·rw [decide_eq_false hi]
   exact ⟨.inr (), rfl, rfl⟩
theorem check_file (hN : maxLen < N) (hes : ∀ x ∈ es, EntD x) : ∃ c, G22x0 N es = some c ∧ G23x0 N es = some c := by
 by_cases hl : (es.length : Int) > 50000
 ·unfold G22x0 F22x0 G23x0 F23x0
  rw [decide_eq_true hl]; exact ⟨3, rfl, rfl⟩
 ·have hm : maxLen = 9223372036854775807 := rfl
  obtain ⟨r, q1, q2⟩ := check_loop hN hes (by omega) N 0 (V70x0 N) zeroS (by omega) (by omega) (by omega) zero70
  have k1 : G22x0x15 N es es.length 0 (V70x0 N) = some r := q1
  have k2 : G23x0x15 N es es.length 0 zeroS = some r := q2
  have k3 : G22x0 N es = bnd (G22x0x15 N es es.length 0 (V70x0 N)) (fun y1 => bif inlB y1 then some (inlV y1) else bif (inrQ y1).isSome then some 0 else none) := by
   unfold G22x0 F22x0
   rw [decide_eq_false hl]; rfl
  have k4 : G23x0 N es = bnd (G23x0x15 N es es.length 0 zeroS) (fun y1 => bif inlB y1 then some (inlV y1) else bif (inrQ y1).isSome then some 0 else none) := by
   unfold G23x0 F23x0
   rw [decide_eq_false hl]; rfl
  rw [k3, k4, k1, k2]
  cases r with
  | inl c => exact ⟨c, rfl, rfl⟩
  | inr u => exact ⟨0, rfl, rfl⟩
end
end Go.Proofs.Ytnnofignhdijiaa

/-! Plain laws: the sum; a piece of bytes; a definition's fields. -/
namespace Go.Proofs.Ytnnofignhdijiaa
open Go Go.AM
set_option maxRecDepth 100000
set_option maxHeartbeats 4000000
set_option linter.unusedVariables false
abbrev TyA : Type := Ty0
abbrev TyB : Type := Ty1
variable {N : Nat}
/-! ### The sum -/
def sumL : Int → List D → Int
 | a, [] => a
 | a, x :: r => sumL ((31 * a + x.toI) % 4294967296) r
section
variable {bs : List D}
theorem sumL_bound : ∀ {bs : List D} {a : Int}, 0 ≤ a → a < 4294967296 → 0 ≤ sumL a bs ∧ sumL a bs < 4294967296
 | [], _, h0, h1 => ⟨h0, h1⟩
 | x :: r, a, h0, h1 => sumL_bound (bs := r) (by omega) (by omega)
theorem G39x0_eq (hN : maxLen < N) (hb : BytesOk bs) (hl : bs.length ≤ maxLen) : G39x0 N bs = some (sumL 1 bs) := by
 have hm : maxLen = 9223372036854775807 := rfl
 have key := loop_ind (A := Int × Int) (X := Option Int) (S := fun x kr => S39x0x9 N bs bs.length x.1 x.2 (fun a b => kr (a, b)) (fun p => some p)) (L := fun m x => L39x0x9 N bs bs.length m x.1 x.2 (fun p => some p)) (fun m x => rfl)
  (fun x => some (sumL x.1 (bs.drop x.2.toNat))) (fun x => 0 ≤ x.2 ∧ x.2 ≤ bs.length ∧ 0 ≤ x.1 ∧ x.1 < 4294967296) (fun x => (bs.length - x.2).toNat) ?_ N (1, 0) ⟨by decide, by show (0 : Int) ≤ _; omega, by decide, by decide⟩ (by simp; omega)
 ·have k2 : G39x0x9 N bs bs.length 1 0 = some (sumL 1 bs) := by
   refine Eq.trans key ?_
   simp
  have hs := sumL_bound (bs := bs) (a := 1) (by decide) (by decide)
  unfold G39x0 F39x0
  simp only [bnd_eq]
  rw [k2]
  simp only [Option.isSome_some, _root_.cond_true, getD_some, wrapI (x := sumL 1 bs) (by omega) (by omega)]
 ·rintro ⟨a, i⟩ kr ⟨h0, h1, h2, h3⟩ ih
  simp only at h0 h1 h2 h3 ih ⊢
  unfold S39x0x9
  by_cases hw : i < bs.length
  ·have hx := getB hb h0 hw
   rw [decide_eq_true hw, inB_of h0 hw, drop_at (.i 0) h0 hw]
   have e : IntKind.wrap .u32 ((IntKind.wrap .u32 (31 * a)) + (IntKind.wrap .u32 (bs.getD i.toNat (.i 0)).toI)) = (31 * a + (bs.getD i.toNat (.i 0)).toI) % 4294967296 := by
    simp only [IntKind.wrap_u32]
    omega
   simp only [_root_.cond_true, bnd_eq, e, wrapI (x := i + 1) (by omega) (by omega), sumL]
   exact ih (_, i + 1) ⟨by simp only; omega, by simp only; omega, by simp only; omega, by simp only; omega⟩ (by simp only; omega)
  ·have : i = bs.length := by omega
   subst this
   rw [decide_eq_false hw, drop_end (by omega)]
   rfl
theorem G40x0_eq (hN : maxLen < N) (hb : BytesOk bs) (hl : bs.length ≤ maxLen) : G40x0 N bs = some (sumL 1 bs) := by
 have hm : maxLen = 9223372036854775807 := rfl
 have key := loop_ind (A := Int × Int) (X := Option Int) (S := fun x kr => S40x0x9 N bs bs.length x.1 x.2 (fun a b => kr (a, b)) (fun p => some p)) (L := fun m x => L40x0x9 N bs bs.length m x.1 x.2 (fun p => some p)) (fun m x => rfl)
  (fun x => some (sumL x.1 (bs.drop x.2.toNat))) (fun x => 0 ≤ x.2 ∧ x.2 ≤ bs.length ∧ 0 ≤ x.1 ∧ x.1 < 4294967296) (fun x => (bs.length - x.2).toNat) ?_ N (1, 0) ⟨by decide, by show (0 : Int) ≤ _; omega, by decide, by decide⟩ (by simp; omega)
 ·have k2 : G40x0x9 N bs bs.length 1 0 = some (sumL 1 bs) := by
   refine Eq.trans key ?_
   simp
  unfold G40x0 F40x0
  rw [k2]; rfl
 ·rintro ⟨a, i⟩ kr ⟨h0, h1, h2, h3⟩ ih
  simp only at h0 h1 h2 h3 ih ⊢
  unfold S40x0x9
  by_cases hw : i < bs.length
  ·have hx := getB hb h0 hw
   rw [decide_eq_true hw, inB_of h0 hw, drop_at (.i 0) h0 hw]
   have e : (IntKind.wrap .i64 ((IntKind.wrap .i64 (31 * a)) + (IntKind.wrap .i64 (bs.getD i.toNat (.i 0)).toI))).tmod 4294967296 = (31 * a + (bs.getD i.toNat (.i 0)).toI) % 4294967296 := by
    rw [wrapI (x := 31 * a) (by omega) (by omega), wrapI (x := (bs.getD i.toNat (.i 0)).toI) (by omega) (by omega), wrapI (by omega) (by omega)]
    exact Int.tmod_eq_emod_of_nonneg (by omega)
   simp only [_root_.cond_true, bnd_eq, e, wrapI (x := i + 1) (by omega) (by omega), sumL]
   exact ih (_, i + 1) ⟨by simp only; omega, by simp only; omega, by simp only; omega, by simp only; omega⟩ (by simp only; omega)
  ·have : i = bs.length := by omega
   subst this
   rw [decide_eq_false hw, drop_end (by omega)]
   rfl
/-! ### A piece -/
theorem BytesOk.sub (hb : BytesOk bs) (a b : Nat) : BytesOk ((bs.take b).drop a) := fun x hx => hb x (List.mem_of_mem_take (List.mem_of_mem_drop hx))
theorem BytesOk.drop (hb : BytesOk bs) (a : Nat) : BytesOk (bs.drop a) := fun x hx => hb x (List.mem_of_mem_drop hx)
theorem piece_no {n a : Int} {nl : Bool} (hn : 0 ≤ n) (hn2 : n ≤ 100000) (hl : bs.length ≤ maxLen) (ha : -1 ≤ a) (ha2 : a ≤ bs.length) (h : a < 0 ∨ n > bs.length - a) : G134x0 N n a nl bs = some (false, List.replicate n.toNat (.i 0), -1) := by
 have hm : maxLen = 9223372036854775807 := rfl
 unfold G134x0 F134x0
 have e : (bif decide (a < 0) then true else decide (n > IntKind.wrap .i64 ((bs.length : Int) - a))) = true := by
  by_cases h0 : a < 0
  ·rw [decide_eq_true h0]; rfl
  ·rw [decide_eq_false h0, wrapI (by omega) (by omega)]
   exact decide_eq_true (by omega)
 have r1 : decide (n.toNat * 1 ≤ room) = true := decide_eq_true (by unfold room; omega)
 have r2 : decide (n.toNat ≤ strMax) = true := decide_eq_true (by unfold strMax; omega)
 rw [e, r1, r2, decide_eq_true hn, decide_eq_true (Int.le_refl n)]
 rfl
theorem piece_ok {n a : Int} {nl : Bool} (hn : 0 ≤ n) (hl : bs.length ≤ maxLen) (ha : 0 ≤ a) (h : a + n ≤ bs.length) : G134x0 N n a nl bs = some (nl, (bs.take (a + n).toNat).drop a.toNat, a + n) := by
 have hm : maxLen = 9223372036854775807 := rfl
 unfold G134x0 F134x0
 have e : (bif decide (a < 0) then true else decide (n > IntKind.wrap .i64 ((bs.length : Int) - a))) = false := by
  rw [decide_eq_false (by omega), wrapI (by omega) (by omega)]
  exact decide_eq_false (by omega)
 rw [e, wrapI (x := a + n) (by omega) (by omega), wrapI (x := a + n - n) (by omega) (by omega), show a + n - n = a by omega, decide_eq_true ha, decide_eq_true (show a ≤ a + n by omega), decide_eq_true (Int.le_refl (a + n)), decide_eq_true h]
 rfl
theorem sub_len {a b : Nat} (h : b ≤ bs.length) : ((bs.take b).drop a).length = b - a := by simp; omega
theorem sub_getD {a b k : Nat} (h : a + k < b) : ((bs.take b).drop a).getD k (.i 0) = bs.getD (a + k) (.i 0) := by
 simp only [List.getD_eq_getElem?_getD, List.getElem?_drop]
 rw [List.getElem?_take_of_lt h]
theorem drop_getD {a k : Nat} : (bs.drop a).getD k (.i 0) = bs.getD (a + k) (.i 0) := by
 simp only [List.getD_eq_getElem?_getD, List.getElem?_drop]
/-- The byte at a place. -/
def by_ (bs : List D) (i : Int) : Int := (bs.getD i.toNat (.i 0)).toI
def fldAt (bs : List D) (a : Int) : D := .a [.i (by_ bs a), .i (by_ bs (a + 1)), .i (by_ bs (a + 2))]
def trip (bs : List D) : Nat → Int → List D
 | 0, _ => []
 | c + 1, a => fldAt bs a :: trip bs c (a + 3)
theorem sub_by {a n k : Int} (ha : 0 ≤ a) (hk : 0 ≤ k) (h : k < n) : (((bs.take (a + n).toNat).drop a.toNat).getD k.toNat (.i 0)).toI = by_ bs (a + k) := by
 unfold by_
 rw [sub_getD (by omega), show (a + k).toNat = a.toNat + k.toNat by omega]
theorem drop_by {a k : Int} (ha : 0 ≤ a) (hk : 0 ≤ k) : by_ (bs.drop a.toNat) k = by_ bs (a + k) := by
 unfold by_
 rw [drop_getD, show (a + k).toNat = a.toNat + k.toNat by omega]
theorem by_in (hb : BytesOk bs) {i : Int} (h0 : 0 ≤ i) (h1 : i < bs.length) : 0 ≤ by_ bs i ∧ by_ bs i ≤ 255 := getB hb h0 h1
theorem trip_len : ∀ (c : Nat) (a : Int), (trip bs c a).length = c
 | 0, _ => rfl
 | c + 1, a => by simp only [trip, List.length_cons, trip_len c (a + 3)]
theorem trip_drop {p : Int} (hp : 0 ≤ p) : ∀ (c : Nat) (a : Int), 0 ≤ a → trip (bs.drop p.toNat) c a = trip bs c (p + a)
 | 0, _, _ => rfl
 | c + 1, a, h => by
  simp only [trip, fldAt, trip_drop hp c (a + 3) (by omega)]
  rw [drop_by hp h, drop_by hp (by omega), drop_by hp (by omega), show p + (a + 1) = p + a + 1 by omega, show p + (a + 2) = p + a + 2 by omega, show p + (a + 3) = p + a + 3 by omega]
/-- The program's loop over a definition's fields. -/
theorem G133x0x48_eq (hN : maxLen < N) (hb : BytesOk bs) (hl : bs.length ≤ maxLen) {c a : Int} {nl : Bool} (h0 : 0 ≤ c) (h1 : c ≤ 255) (ha : -1 ≤ a) (ha2 : a ≤ bs.length) :
  ∃ a' fs, G133x0x48 N c nl bs 0 a true [] = some (a', fs.isEmpty, fs) ∧ FldsOk fs ∧ (0 ≤ a ∧ a + 3 * c ≤ bs.length → a' = a + 3 * c ∧ fs = trip bs c.toNat a) ∧ (¬ (0 ≤ a ∧ a + 3 * c ≤ bs.length) → a' = -1) := by
 have hm : maxLen = 9223372036854775807 := rfl
 have key := loop_indE (A := Int × Int × Bool × LD) (X := Option (Int × Bool × LD)) (S := fun x kr => S133x0x48 N c nl bs x.1 x.2.1 x.2.2.1 x.2.2.2 (fun a b c d => kr (a, b, c, d)) (fun p => some p)) (L := fun m x => L133x0x48 N c nl bs m x.1 x.2.1 x.2.2.1 x.2.2.2 (fun p => some p)) (fun m x => rfl)
  (fun x r => ∃ a' fs, r = some (a', (x.2.2.1 && fs.isEmpty), x.2.2.2 ++ fs) ∧ (fs.length : Int) = c - x.1 ∧ (∀ f ∈ fs, 0 ≤ fS f ∧ fS f ≤ 255) ∧ (0 ≤ x.2.1 ∧ x.2.1 + 3 * (c - x.1) ≤ bs.length → a' = x.2.1 + 3 * (c - x.1) ∧ fs = trip bs (c - x.1).toNat x.2.1) ∧ (¬ (0 ≤ x.2.1 ∧ x.2.1 + 3 * (c - x.1) ≤ bs.length) → a' = -1))
  (fun x => 0 ≤ x.1 ∧ x.1 ≤ c ∧ -1 ≤ x.2.1 ∧ x.2.1 ≤ bs.length ∧ (x.2.2.2.length : Int) = x.1) (fun x => (c - x.1).toNat) ?_ N (0, a, true, []) ⟨by show (0 : Int) ≤ 0; omega, by show (0 : Int) ≤ _; omega, ha, ha2, rfl⟩ (by simp; omega)
 ·obtain ⟨a', fs, q, l, f, p1, p2⟩ := key
  simp only [Int.sub_zero, List.nil_append, Bool.true_and] at q l p1 p2
  exact ⟨a', fs, q, ⟨by omega, f⟩, p1, p2⟩
 ·rintro ⟨w, a, b, acc⟩ kr ⟨h2, h3, h4, h5, h6⟩ ih
  simp only at h2 h3 h4 h5 h6 ih ⊢
  unfold S133x0x48
  by_cases hw : w < c
  ·have r1 : decide ((acc.length + 1) * 24 ≤ room) = true := decide_eq_true (by unfold room; omega)
   have r2 : decide (acc.length + 1 ≤ strMax) = true := decide_eq_true (by unfold strMax; omega)
   have i0 : inB 0 3 = true := rfl
   have i1 : inB 1 3 = true := rfl
   have i2 : inB 2 3 = true := rfl
   have w8 : IntKind.wrap .u8 (w + 1) = w + 1 := by simp only [IntKind.wrap_u8]; omega
   rw [decide_eq_true hw]
   by_cases hp : 0 ≤ a ∧ a + 3 ≤ bs.length
   ·obtain ⟨hp1, hp2⟩ := hp
    have l3 : ((bs.take (a + 3).toNat).drop a.toNat).length = 3 := by rw [sub_len (by omega)]; omega
    have b0 := by_in hb (i := a + 0) (by omega) (by omega)
    have b1 := by_in hb (i := a + 1) (by omega) (by omega)
    have b2 := by_in hb (i := a + 2) (by omega) (by omega)
    have v0 := sub_by (bs := bs) (a := a) (n := 3) (k := 0) hp1 (by omega) (by omega)
    have v1 := sub_by (bs := bs) (a := a) (n := 3) (k := 1) hp1 (by omega) (by omega)
    have v2 := sub_by (bs := bs) (a := a) (n := 3) (k := 2) hp1 (by omega) (by omega)
    simp only [_root_.cond_true, bnd_eq, piece_ok (n := 3) (nl := nl) (N := N) (by omega) hl hp1 hp2, Option.isSome_some, getD_some, l3, i0, i1, i2, w8, r1, r2, Bool.and_self]
    have e0 : ((bs.take (a + 3).toNat).drop a.toNat).getD 0 (.i 0) = ((bs.take (a + 3).toNat).drop a.toNat).getD (0 : Int).toNat (.i 0) := rfl
    have e1 : ((bs.take (a + 3).toNat).drop a.toNat).getD 1 (.i 0) = ((bs.take (a + 3).toNat).drop a.toNat).getD (1 : Int).toNat (.i 0) := rfl
    have e2 : ((bs.take (a + 3).toNat).drop a.toNat).getD 2 (.i 0) = ((bs.take (a + 3).toNat).drop a.toNat).getD (2 : Int).toNat (.i 0) := rfl
    rw [e0, e1, e2, v0, v1, v2, wrapI (x := by_ bs (a + 0)) (by omega) (by omega), wrapI (x := by_ bs (a + 1)) (by omega) (by omega), wrapI (x := by_ bs (a + 2)) (by omega) (by omega)]
    obtain ⟨a', fs, q, l, f, p1, p2⟩ := ih (w + 1, a + 3, false, acc ++ [.a [.i (by_ bs (a + 0)), .i (by_ bs (a + 1)), .i (by_ bs (a + 2))]]) ⟨by simp only; omega, by simp only; omega, by simp only; omega, by simp only; omega, by simp; omega⟩ (by simp only; omega)
    simp only at q l p1 p2
    refine ⟨a', fldAt bs a :: fs, ?_, by simp; omega, ?_, fun h => ?_, fun h => p2 (by omega)⟩
    ·have ef : fldAt bs a = .a [.i (by_ bs (a + 0)), .i (by_ bs (a + 1)), .i (by_ bs (a + 2))] := by unfold fldAt; rw [Int.add_zero]
     rw [ef]
     rw [List.append_assoc, Bool.false_and] at q
     rw [List.isEmpty_cons, Bool.and_false]
     exact q
    ·intro g hg
     rcases List.mem_cons.1 hg with rfl | hg
     ·exact b1
     ·exact f g hg
    ·obtain ⟨q1, q2⟩ := p1 (by omega)
     refine ⟨by omega, ?_⟩
     rw [show (c - w).toNat = (c - (w + 1)).toNat + 1 by omega]
     simp only [trip]
     rw [← q2]
   ·simp only [_root_.cond_true, bnd_eq, piece_no (n := 3) (nl := nl) (N := N) (by omega) (by omega) hl h4 h5 (by omega), Option.isSome_some, getD_some, List.length_replicate, show (3 : Int).toNat = 3 from rfl, i0, i1, i2, w8, r1, r2, Bool.and_self]
    obtain ⟨a', fs, q, l, f, p1, p2⟩ := ih (w + 1, -1, false, acc ++ [.a [.i 0, .i 0, .i 0]]) ⟨by simp only; omega, by simp only; omega, by simp only; omega, by simp only; omega, by simp; omega⟩ (by simp only; omega)
    simp only at q l p1 p2
    refine ⟨a', .a [.i 0, .i 0, .i 0] :: fs, ?_, by simp; omega, ?_, fun h => by omega, fun h => p2 (by omega)⟩
    ·rw [List.append_assoc, Bool.false_and] at q
     rw [List.isEmpty_cons, Bool.and_false]
     exact q
    ·intro g hg
     rcases List.mem_cons.1 hg with rfl | hg
     ·exact ⟨by decide, by decide⟩
     ·exact f g hg
  ·have : w = c := by omega
   subst this
   rw [decide_eq_false hw]
   exact ⟨a, [], by simp, by simp, by simp, fun h => by simp [trip], fun h => by omega⟩
/-- The reference's loop over a definition's fields. -/
theorem G135x0x30_eq (hN : maxLen < N) (hb : BytesOk bs) (hl : bs.length ≤ maxLen) {c : Int} (h0 : 0 ≤ c) (h1 : c ≤ 255) (h : 5 + 3 * c ≤ bs.length) : G135x0x30 N bs c 0 true [] = some ((trip bs c.toNat 5).isEmpty, trip bs c.toNat 5) := by
 have hm : maxLen = 9223372036854775807 := rfl
 have key := loop_indE (A := Int × Bool × LD) (X := Option (Bool × LD)) (S := fun x kr => S135x0x30 N bs c x.1 x.2.1 x.2.2 (fun a b c => kr (a, b, c)) (fun p => some p)) (L := fun m x => L135x0x30 N bs c m x.1 x.2.1 x.2.2 (fun p => some p)) (fun m x => rfl)
  (fun x r => r = some ((x.2.1 && (trip bs (c - x.1).toNat (5 + 3 * x.1)).isEmpty), x.2.2 ++ trip bs (c - x.1).toNat (5 + 3 * x.1)))
  (fun x => 0 ≤ x.1 ∧ x.1 ≤ c ∧ (x.2.2.length : Int) = x.1) (fun x => (c - x.1).toNat) ?_ N (0, true, []) ⟨by show (0 : Int) ≤ 0; omega, by show (0 : Int) ≤ _; omega, rfl⟩ (by simp; omega)
 ·have q := key
  simp only [Int.sub_zero, List.nil_append, Bool.true_and] at q
  exact q
 ·rintro ⟨w, b, acc⟩ kr ⟨h2, h3, h4⟩ ih
  simp only at h2 h3 h4 ih ⊢
  unfold S135x0x30
  by_cases hw : w < c
  ·have r1 : decide ((acc.length + 1) * 24 ≤ room) = true := decide_eq_true (by unfold room; omega)
   have r2 : decide (acc.length + 1 ≤ strMax) = true := decide_eq_true (by unfold strMax; omega)
   have b0 := by_in hb (i := 5 + 3 * w) (by omega) (by omega)
   have b1 := by_in hb (i := 6 + 3 * w) (by omega) (by omega)
   have b2 := by_in hb (i := 7 + 3 * w) (by omega) (by omega)
   have e : ∀ i : Int, (bs.getD i.toNat (.i 0)).toI = by_ bs i := fun _ => rfl
   rw [decide_eq_true hw, wrapI (x := 3 * w) (by omega) (by omega), wrapI (x := 5 + 3 * w) (by omega) (by omega), wrapI (x := 6 + 3 * w) (by omega) (by omega), wrapI (x := 7 + 3 * w) (by omega) (by omega), inB_of (i := 5 + 3 * w) (by omega) (by omega), inB_of (i := 6 + 3 * w) (by omega) (by omega), inB_of (i := 7 + 3 * w) (by omega) (by omega)]
   simp only [_root_.cond_true, bnd_eq, e, r1, r2, Bool.and_self, wrapI (x := w + 1) (by omega) (by omega)]
   rw [wrapI (x := by_ bs (5 + 3 * w)) (by omega) (by omega), wrapI (x := by_ bs (6 + 3 * w)) (by omega) (by omega), wrapI (x := by_ bs (7 + 3 * w)) (by omega) (by omega)]
   have q := ih (w + 1, false, acc ++ [.a [.i (by_ bs (5 + 3 * w)), .i (by_ bs (6 + 3 * w)), .i (by_ bs (7 + 3 * w))]]) ⟨by simp only; omega, by simp only; omega, by simp; omega⟩ (by simp only; omega)
   simp only [Bool.false_and] at q
   rw [show (c - w).toNat = (c - (w + 1)).toNat + 1 by omega]
   simp only [trip, fldAt, List.isEmpty_cons, Bool.and_false]
   rw [List.append_assoc] at q
   rw [show 5 + 3 * w + 1 = 6 + 3 * w by omega, show 5 + 3 * w + 2 = 7 + 3 * w by omega, show 5 + 3 * w + 3 = 5 + 3 * (w + 1) by omega]
   exact q
  ·have : w = c := by omega
   subst this
   rw [decide_eq_false hw]
   simp [trip]
end
end Go.Proofs.Ytnnofignhdijiaa

/-! Plain laws: how many bytes an entry takes. -/
namespace Go.Proofs.Ytnnofignhdijiaa
open Go Go.AM
set_option maxRecDepth 100000
set_option maxHeartbeats 4000000
set_option linter.unusedVariables false
variable {N : Nat}
section
variable {bs : List D}
theorem G67_2 (hN : maxLen < N) (v : Int) (big : Bool) : ∃ l, G67x0 N v 2 big = some l ∧ l.length = 2 := by
 have hm : maxLen = 9223372036854775807 := rfl
 obtain ⟨k, rfl⟩ : ∃ k, N = k + 3 := ⟨N - 3, by omega⟩
 cases big with
 | false => exact ⟨[.i (IntKind.wrap .u8 (v.fdiv (2 ^ (min (IntKind.wrap .i64 (8 * 0)).toNat 64)))), .i (IntKind.wrap .u8 (v.fdiv (2 ^ (min (IntKind.wrap .i64 (8 * (IntKind.wrap .i64 (0 + 1)))).toNat 64))))], by kernel_rfl, rfl⟩
 | true => exact ⟨[.i (IntKind.wrap .u8 (v.fdiv (2 ^ (min (IntKind.wrap .i64 (8 * (IntKind.wrap .i64 (0 + 1)))).toNat 64)))), .i (IntKind.wrap .u8 (v.fdiv (2 ^ (min (IntKind.wrap .i64 (8 * 0)).toNat 64))))], by kernel_rfl, rfl⟩
theorem G65x0x39_eq (hN : maxLen < N) {fs l : List D} (hf : fs.length ≤ 255) (hl : l.length ≤ 100) : ∃ b l', G65x0x39 N fs fs.length 0 false l = some (b, l') ∧ l'.length = l.length + 3 * fs.length := by
 have hm : maxLen = 9223372036854775807 := rfl
 have key := loop_indE (A := Int × Bool × LD) (X := Option (Bool × LD)) (S := fun x kr => S65x0x39 N fs fs.length x.1 x.2.1 x.2.2 (fun a b c => kr (a, b, c)) (fun p => some p)) (L := fun m x => L65x0x39 N fs fs.length m x.1 x.2.1 x.2.2 (fun p => some p)) (fun m x => rfl)
  (fun x r => ∃ b l', r = some (b, l') ∧ (l'.length : Int) = x.2.2.length + 3 * (fs.length - x.1))
  (fun x => 0 ≤ x.1 ∧ x.1 ≤ fs.length ∧ (x.2.2.length : Int) ≤ 100 + 3 * x.1) (fun x => (fs.length - x.1).toNat) ?_ N (0, false, l) ⟨by show (0 : Int) ≤ 0; omega, by show (0 : Int) ≤ _; omega, by simp; omega⟩ (by simp; omega)
 ·obtain ⟨b, l', q, e⟩ := key
  simp only at e
  exact ⟨b, l', q, by omega⟩
 ·rintro ⟨w, b, acc⟩ kr ⟨h2, h3, h4⟩ ih
  simp only at h2 h3 h4 ih ⊢
  unfold S65x0x39
  by_cases hw : w < fs.length
  ·have r1 : decide ((acc.length + 3) * 1 ≤ room) = true := decide_eq_true (by unfold room; omega)
   have r2 : decide (acc.length + 3 ≤ strMax) = true := decide_eq_true (by unfold strMax; omega)
   rw [decide_eq_true hw, inB_of h2 hw]
   simp only [_root_.cond_true, bnd_eq, r1, r2, Bool.and_self, wrapI (x := w + 1) (by omega) (by omega)]
   obtain ⟨b', l', q, e⟩ := ih (w + 1, false, acc ++ [(.i (IntKind.wrap .u8 ((fs.getD w.toNat (.i 0)).cell 0).toI)), (.i (IntKind.wrap .u8 ((fs.getD w.toNat (.i 0)).cell 1).toI)), (.i (IntKind.wrap .u8 ((fs.getD w.toNat (.i 0)).cell 2).toI))]) ⟨by simp only; omega, by simp only; omega, by simp; omega⟩ (by simp only; omega)
   simp at e
   exact ⟨b', l', q, by omega⟩
  ·have : w = fs.length := by omega
   subst this
   rw [decide_eq_false hw]
   exact ⟨b, acc, rfl, by omega⟩
theorem G65_def (hN : maxLen < N) {slot off g : Int} {arch nl : Bool} {fs data : List D} (hf : fs.length ≤ 255) : ∃ nl' l, G65x0 N 1 slot off [.a [.b arch, .i g, .l nl fs]] data = some (nl', l) ∧ (l.length : Int) = 5 + 3 * fs.length := by
 unfold G65x0 F65x0
 obtain ⟨l2, q2, e2⟩ := G67_2 hN g arch
 have h29 : ∃ l1, G65x0x29 N arch [(.i (IntKind.wrap .u8 (IntKind.wrap .i64 (64 + slot)))), (.i 0)] = some l1 ∧ l1.length = 2 := by
  cases arch with
  | true => exact ⟨[(.i (IntKind.wrap .u8 (IntKind.wrap .i64 (64 + slot)))), (.i 1)], rfl, rfl⟩
  | false => exact ⟨[(.i (IntKind.wrap .u8 (IntKind.wrap .i64 (64 + slot)))), (.i 0)], rfl, rfl⟩
 obtain ⟨l1, q1, e1⟩ := h29
 have d0 : (((([.a [.b arch, .i g, .l nl fs]] : List D).getD 0 (.i 0)).cell 0).toB) = arch := rfl
 have d1 : (((([.a [.b arch, .i g, .l nl fs]] : List D).getD 0 (.i 0)).cell 1).toI) = g := rfl
 have d2 : (((([.a [.b arch, .i g, .l nl fs]] : List D).getD 0 (.i 0)).cell 2).items) = fs := rfl
 have c1 : ((1 : Int) == 2) = false := rfl
 have c2 : ((1 : Int) == 3) = false := rfl
 have c3 : inB 0 ([.a [.b arch, .i g, .l nl fs]] : List D).length = true := rfl
 have r1 : decide ((l1.length + l2.length) * 1 ≤ room) = true := decide_eq_true (by unfold room; omega)
 have r2 : decide (l1.length + l2.length ≤ strMax) = true := decide_eq_true (by unfold strMax; omega)
 have r3 : decide (((l1 ++ l2).length + 1) * 1 ≤ room) = true := decide_eq_true (by unfold room; simp; omega)
 have r4 : decide ((l1 ++ l2).length + 1 ≤ strMax) = true := decide_eq_true (by unfold strMax; simp; omega)
 obtain ⟨b, l', q, e⟩ := G65x0x39_eq (N := N) hN (fs := fs) (l := (l1 ++ l2) ++ [.i (IntKind.wrap .u8 (fs.length : Int))]) hf (by simp; omega)
 simp only [d0, d1, d2, c1, c2, c3, _root_.cond_false, _root_.cond_true, bnd_eq, q1, q2, Option.isSome_some, getD_some, r1, r2, r3, r4, Bool.and_self, q]
 exact ⟨b, l', rfl, by simp at e; omega⟩
theorem G65_data {kind slot off : Int} {ds data : List D} (hk : kind = 2 ∨ kind = 3) (hd : data.length ≤ 100000) : ∃ nl' l, G65x0 N kind slot off ds data = some (nl', l) ∧ (l.length : Int) = 1 + data.length := by
 have r1 : decide ((1 + data.length) * 1 ≤ room) = true := decide_eq_true (by unfold room; omega)
 have r2 : decide (1 + data.length ≤ strMax) = true := decide_eq_true (by unfold strMax; omega)
 unfold G65x0 F65x0
 rw [r1, r2]
 rcases hk with rfl | rfl
 ·exact ⟨_, _, rfl, by simp; omega⟩
 ·exact ⟨_, _, rfl, by simp; omega⟩
end
end Go.Proofs.Ytnnofignhdijiaa

/-! Plain laws: one entry read (entries of the program, readEntry of the reference). -/
namespace Go.Proofs.Ytnnofignhdijiaa
open Go Go.AM
set_option maxRecDepth 100000
set_option maxHeartbeats 4000000
set_option linter.unusedVariables false
variable {N : Nat}
/-- The end of the program's reading of data. -/
noncomputable def tailP (N : Nat) (kind slot off a : Int) (nl : Bool) (bs : List D) (p : D) : Option TyA :=
 bif (inB slot 16) then
  bnd (bif (decide (a < 0)) then true else (!(p.cell (0 + (slot.toNat * 6))).toB)) fun y3 =>
  bnd (bif y3 then true else (bif (kind == 3) then (decide ((p.cell (5 + (slot.toNat * 6))).toI < 0)) else false)) fun y4 =>
  bif y4 then
   some (kind, slot, off, true, [], true, [], false, a, p)
  else
   bnd (V133x0x89 N (p.cell (4 + (slot.toNat * 6))).toI (kind == 3)) fun y5 =>
   bnd (G134x0 N y5 a nl bs) fun y6 =>
   bif y6.isSome then
    bnd (G129x0 N (y6.getD default).1 (y6.getD default).2.1) fun y7 =>
    bif y7.isSome then
     some (kind, slot, off, true, [], (y7.getD default).1, (y7.getD default).2, (decide ((y6.getD default).2.2 ≥ 0)), (y6.getD default).2.2, p)
    else
     none
   else
    none
 else
  none
/-- The end of the reference's. -/
noncomputable def tailR (N : Nat) (kind slot off : Int) (v1 : List D) (v2 : D) : Option TyB :=
 bif (inB slot 16) then
  bif (!(v2.cell (0 + (slot.toNat * 1))).toB) then
   some (kind, slot, off, true, [], true, [], 0, false)
  else
   bif (inB slot 16) then
    bnd (G79x0 N (v2.cell (18 + (slot.toNat * 3))).items) fun y1 =>
    bif y1.isSome then
     bnd (bif (kind == 3) then (!(y1.getD default).2) else false) fun y2 =>
     bif y2 then
      some (kind, slot, off, true, [], true, [], 0, false)
     else
      bnd (G100x0 N (v2.cell (18 + (slot.toNat * 3))).items (kind == 3)) fun y3 =>
      bif y3.isSome then
       bnd (G126x0 N (y3.getD default).2) fun y4 =>
       bif y4.isSome then
        bnd (decide ((v1.length : Int) < (IntKind.wrap .i64 (1 + (y4.getD default))))) fun y5 =>
        bif y5 then
         some (kind, slot, off, true, [], true, [], 0, false)
        else
         bif ((decide (1 ≤ (IntKind.wrap .i64 (1 + (y4.getD default))))) && (decide ((IntKind.wrap .i64 (1 + (y4.getD default))) ≤ (v1.length : Int)))) then
          bnd (((v1.take (IntKind.wrap .i64 (1 + (y4.getD default))).toNat).drop 1) : List D) fun y6 =>
          bif (decide ((0 + y6.length) * 1 ≤ room) && decide ((0 + y6.length) ≤ strMax)) then
           some (kind, slot, off, true, [], (y6.isEmpty && false), y6, (IntKind.wrap .i64 (1 + (y4.getD default))), true)
          else
           none
         else
          none
       else
        none
      else
       none
    else
     none
   else
    none
 else
  none
/-- What both read: an entry of n bytes. -/
structure Got (N : Nat) (bs : List D) (a : Int) (p s : D) (kind slot off : Int) (ds data : List D) (a' : Int) (p' : D) (n : Int) : Prop where
 e : EntL ds data
 a : a' = a + n
 n1 : 1 ≤ n
 le : a' ≤ bs.length
 len : ∃ nl l, G65x0 N kind slot off ds data = some (nl, l) ∧ (l.length : Int) = n
 d : kind = 1 → ∃ s', G74x0 N kind slot off ds data s = some (-1, s') ∧ Slots p' s'
 o : kind ≠ 1 → p' = p
section
variable {bs : List D} {p s : D}
theorem clone_no {xs : List D} (h : xs.length ≤ 100000) : G129x0 N false xs = some (false, xs) := by
 have r1 : decide ((0 + xs.length) * 1 ≤ room) = true := decide_eq_true (by unfold room; omega)
 have r2 : decide (0 + xs.length ≤ strMax) = true := decide_eq_true (by unfold strMax; omega)
 unfold G129x0 F129x0
 rw [r1, r2]
 simp
theorem sub_drop {a : Int} (n : Int) (h : 0 ≤ a) (hn : 0 ≤ n) : ((bs.drop a.toNat).take (1 + n).toNat).drop 1 = (bs.take (a + 1 + n).toNat).drop (a + 1).toNat := by
 rw [List.take_drop, List.drop_drop, show a.toNat + (1 + n).toNat = (a + 1 + n).toNat by omega, show a.toNat + 1 = (a + 1).toNat by omega]
theorem data_read (hN : maxLen < N) (hb : BytesOk bs) (hl : bs.length ≤ maxLen) {a : Int} (h0 : 0 ≤ a) (h1 : a < bs.length) (hs : Slots p s) {kind slot off : Int} (hk : kind = 2 ∨ kind = 3) (hs0 : 0 ≤ slot) (hs1 : slot < 16) :
  ∃ data dn dn2 data2 ok a' n, tailP N kind slot off (a + 1) false bs p = some (kind, slot, off, true, [], dn, data, ok, a', p) ∧ tailR N kind slot off (bs.drop a.toNat) s = some (kind, slot, off, true, [], dn2, data2, n, ok) ∧ (ok = true → dn2 = dn ∧ data2 = data ∧ Got N bs a p s kind slot off [] data a' p n) := by
 have hm : maxLen = 9223372036854775807 := rfl
 have i1 : inB slot 16 = true := inB_of hs0 (by omega)
 have i2 : slot.toNat < 16 := by omega
 have hlen : ((bs.drop a.toNat).length : Int) = bs.length - a := by simp; omega
 unfold tailP tailR
 rw [i1]
 simp only [_root_.cond_true, bnd_eq, decide_eq_false (show ¬ a + 1 < 0 by omega), _root_.cond_false, ← hs.known _ i2]
 cases hkn : (p.cell (0 + slot.toNat * 6)).toB with
 | false => exact ⟨_, _, _, _, _, _, _, rfl, rfl, fun h => absurd h (by decide)⟩
 | true =>
 obtain ⟨d1, _, _, d4, d5, d6⟩ := hs.defs _ i2 hkn
 have tb := tmL_bound (a := 0) (by omega) d1.size
 have sb := szL_bound d1.size
 have lb := d1.len
 have sf := szL_flds (a := 0) (by omega) d1.size
 obtain ⟨nl1, q3⟩ := G100x0_eq hN d1 (kind == 3)
 have q4 := G126x0_eq hN (d1.flds (kind == 3))
 simp only [Bool.not_true, _root_.cond_false, ← d4, G79x0_eq hN d1, q3, q4, d5, d6, Option.isSome_some, _root_.cond_true, getD_some]
 have e2 : (bif kind == 3 then !(bif decide (tmL 0 (p.cell (3 + slot.toNat * 6)).items < 0) then ((0 : Int), false) else (tmL 0 (p.cell (3 + slot.toNat * 6)).items, true)).2 else false) = (bif kind == 3 then decide (tmL 0 (p.cell (3 + slot.toNat * 6)).items < 0) else false) := by
  cases kind == 3 <;> cases decide (tmL 0 (p.cell (3 + slot.toNat * 6)).items < 0) <;> rfl
 rw [e2]
 cases h3 : (bif kind == 3 then decide (tmL 0 (p.cell (3 + slot.toNat * 6)).items < 0) else false) with
 | true => exact ⟨_, _, _, _, _, _, _, rfl, rfl, fun h => absurd h (by decide)⟩
 | false =>
 have hz : V133x0x89 N (szL (p.cell (3 + slot.toNat * 6)).items) (kind == 3) = szL (flds (kind == 3) (p.cell (3 + slot.toNat * 6)).items) ∧ 0 ≤ szL (flds (kind == 3) (p.cell (3 + slot.toNat * 6)).items) ∧ szL (flds (kind == 3) (p.cell (3 + slot.toNat * 6)).items) ≤ 100000 := by
  unfold V133x0x89 F133x0x89
  rcases hk with rfl | rfl
  ·have e : ((2 : Int) == 3) = false := rfl
   rw [e, szL_flds_false]
   exact ⟨rfl, by omega, by omega⟩
  ·have e : ((3 : Int) == 3) = true := rfl
   rw [e] at h3 ⊢
   simp at h3
   rw [sf.2 h3, _root_.cond_true, wrapI (by omega) (by omega)]
   exact ⟨rfl, by omega, by omega⟩
 obtain ⟨z1, z2, z3⟩ := hz
 rw [z1]
 generalize szL (flds (kind == 3) (p.cell (3 + slot.toNat * 6)).items) = n at z2 z3 ⊢
 simp only [_root_.cond_false, wrapI (x := 1 + n) (by omega) (by omega)]
 by_cases hf : a + 1 + n ≤ bs.length
 ·have lx : ((bs.take (a + 1 + n).toNat).drop (a + 1).toNat).length = n.toNat := by rw [sub_len (by omega)]; omega
  have lx2 : (((bs.drop a.toNat).take (1 + n).toNat).drop 1).length = n.toNat := by simp; omega
  have r1 : decide ((0 + (((bs.drop a.toNat).take (1 + n).toNat).drop 1).length) * 1 ≤ room) = true := decide_eq_true (by rw [lx2]; unfold room; omega)
  have r2 : decide (0 + (((bs.drop a.toNat).take (1 + n).toNat).drop 1).length ≤ strMax) = true := decide_eq_true (by rw [lx2]; unfold strMax; omega)
  rw [piece_ok z2 hl (by omega) (by omega)]
  simp only [getD_some, Option.isSome_some, _root_.cond_true, clone_no (N := N) (show ((bs.take (a + 1 + n).toNat).drop (a + 1).toNat).length ≤ 100000 by omega)]
  rw [r1, r2, decide_eq_true (show a + 1 + n ≥ 0 by omega), decide_eq_false (show ¬ ((bs.drop a.toNat).length : Int) < 1 + n by omega), decide_eq_true (show (1 : Int) ≤ 1 + n by omega), decide_eq_true (show 1 + n ≤ ((bs.drop a.toNat).length : Int) by omega)]
  refine ⟨_, _, _, _, _, _, _, rfl, rfl, fun _ => ⟨Bool.and_false _, sub_drop n h0 z2, ⟨⟨by simp, by omega, fun x hx => by simp at hx, hb.sub _ _⟩, by omega, by omega, by omega, ?_, fun h => by omega, fun _ => rfl⟩⟩⟩
  obtain ⟨nl, l, q, e⟩ := G65_data (N := N) (slot := slot) (off := off) (ds := []) (data := (bs.take (a + 1 + n).toNat).drop (a + 1).toNat) hk (by omega)
  exact ⟨nl, l, q, by omega⟩
 ·rw [piece_no z2 z3 hl (by omega) (by omega) (by omega)]
  simp only [getD_some, Option.isSome_some, _root_.cond_true, clone_no (N := N) (show (List.replicate n.toNat (D.i 0)).length ≤ 100000 by simp; omega)]
  rw [decide_eq_true (show ((bs.drop a.toNat).length : Int) < 1 + n by omega)]
  exact ⟨_, _, _, _, false, _, _, rfl, rfl, fun h => absurd h (by decide)⟩
end
end Go.Proofs.Ytnnofignhdijiaa

/-! Plain laws: a definition read; one entry read. -/
namespace Go.Proofs.Ytnnofignhdijiaa
open Go Go.AM
set_option maxRecDepth 100000
set_option maxHeartbeats 4000000
set_option linter.unusedVariables false
variable {N : Nat}
/-- A definition that lies at a place. -/
def defAt (bs : List D) (a : Int) : D :=
 .a [.b (by_ bs (a + 1) == 1), .i (numB ((bs.take (a + 4).toNat).drop (a + 2).toNat) (by_ bs (a + 1) == 1)), .l (trip bs (by_ bs (a + 4)).toNat (a + 5)).isEmpty (trip bs (by_ bs (a + 4)).toNat (a + 5))]
/-- Where a definition ends. -/
def defIn (bs : List D) (a : Int) : Prop := a + 5 ≤ bs.length ∧ a + 5 + 3 * by_ bs (a + 4) ≤ bs.length
section
variable {bs : List D} {p s : D}
theorem piece_any (hb : BytesOk bs) (hl : bs.length ≤ maxLen) {n a : Int} {nl : Bool} (hn : 0 ≤ n) (hn2 : n ≤ 100000) (ha : -1 ≤ a) (ha2 : a ≤ bs.length) :
  ∃ nl' xs a', G134x0 N n a nl bs = some (nl', xs, a') ∧ xs.length = n.toNat ∧ BytesOk xs ∧ -1 ≤ a' ∧ a' ≤ bs.length ∧ (0 ≤ a ∧ a + n ≤ bs.length → a' = a + n ∧ xs = (bs.take (a + n).toNat).drop a.toNat) ∧ (¬ (0 ≤ a ∧ a + n ≤ bs.length) → a' = -1) := by
 by_cases h : 0 ≤ a ∧ a + n ≤ bs.length
 ·obtain ⟨h1, h2⟩ := h
  exact ⟨_, _, _, piece_ok hn hl h1 h2, by rw [sub_len (by omega)]; omega, hb.sub _ _, by omega, by omega, fun _ => ⟨rfl, rfl⟩, fun h => absurd ⟨h1, h2⟩ h⟩
 ·refine ⟨_, _, _, piece_no hn hn2 hl ha ha2 (by omega), by simp, fun x hx => ?_, by omega, by omega, fun h' => absurd h' h, fun _ => rfl⟩
  rw [(List.mem_replicate.1 hx).2]
  exact ⟨by decide, by decide⟩
theorem one_by {n a : Int} {xs : List D} (ha : 0 ≤ a) (hn : n = 1) (h : xs = (bs.take (a + n).toNat).drop a.toNat) : (xs.getD 0 (.i 0)).toI = by_ bs a := by
 subst h hn
 have := sub_by (bs := bs) (a := a) (n := 1) (k := 0) ha (by omega) (by omega)
 rw [Int.add_zero] at this
 exact this
theorem byte0 {xs : List D} (hb : BytesOk xs) (h : xs.length = 1) : 0 ≤ (xs.getD 0 (.i 0)).toI ∧ (xs.getD 0 (.i 0)).toI ≤ 255 := getB (i := 0) hb (by omega) (by omega)
/-- The program's definition. -/
theorem prog_def (hN : maxLen < N) (hb : BytesOk bs) (hl : bs.length ≤ maxLen) {a c : Int} {nl : Bool} (h0 : 0 ≤ a) (h1 : a < bs.length) (c0 : 64 ≤ c) (c1 : c ≤ 79) :
  ∃ ok a' p' d, G133x0x24023 N c false (a + 1) nl bs p = some (.inr (.inl (ok, a', p', c - 64, c - 64, [d]))) ∧
   (ok = true ↔ (defIn bs a ∧ by_ bs (a + 1) ≤ 1)) ∧
   (defIn bs a → a' = a + 5 + 3 * by_ bs (a + 4) ∧ d = defAt bs a ∧ ∀ s, Slots p s → Slots p' ((((s.put (0 + (c - 64).toNat * 1) (.b true)).put (16 + (c - 64).toNat * 3) (.b (by_ bs (a + 1) == 1))).put (17 + (c - 64).toNat * 3) (.i (numB ((bs.take (a + 4).toNat).drop (a + 2).toNat) (by_ bs (a + 1) == 1)))).put (18 + (c - 64).toNat * 3) (.l (trip bs (by_ bs (a + 4)).toNat (a + 5)).isEmpty (trip bs (by_ bs (a + 4)).toNat (a + 5))))) := by
 have hm : maxLen = 9223372036854775807 := rfl
 obtain ⟨nl1, x1, a1, q1, l1, b1, m1, M1, y1, n1⟩ := piece_any (N := N) hb hl (n := 1) (a := a + 1) (nl := nl) (by omega) (by omega) (by omega) (by omega)
 obtain ⟨nl2, x2, a2, q2, l2, b2, m2, M2, y2, n2⟩ := piece_any (N := N) hb hl (n := 2) (a := a1) (nl := nl) (by omega) (by omega) (by omega) (by omega)
 obtain ⟨nl3, x3, a3, q3, l3, b3, m3, M3, y3, n3⟩ := piece_any (N := N) hb hl (n := 1) (a := a2) (nl := nl) (by omega) (by omega) (by omega) (by omega)
 have l1' : x1.length = 1 := l1
 have l2' : x2.length = 2 := l2
 have l3' : x3.length = 1 := l3
 have k1 := byte0 b1 l1'
 have k3 := byte0 b3 l3'
 obtain ⟨a4, fs, q4, fo, y4, n4⟩ := G133x0x48_eq (N := N) hN hb hl (c := (x3.getD 0 (.i 0)).toI) (a := a3) (nl := nl) k3.1 k3.2 m3 M3
 have i1 : inB (c - 64) 16 = true := inB_of (by omega) (by omega)
 have i0 : inB 0 1 = true := rfl
 have hv : V52x0 N c 64 79 = true := by
  rw [V52x0_eq]; unfold inI; simp; omega
 refine ⟨(bif decide (a4 ≥ 0) then decide ((x1.getD 0 (.i 0)).toI ≤ 1) else false), a4, ((((((p.put (0 + ((c - 64).toNat * 6)) (.b true)).put (1 + ((c - 64).toNat * 6)) (.b ((x1.getD 0 (.i 0)).toI == 1))).put (2 + ((c - 64).toNat * 6)) (.i (numB x2 ((x1.getD 0 (.i 0)).toI == 1)))).put (3 + ((c - 64).toNat * 6)) (.l fs.isEmpty fs)).put (4 + ((c - 64).toNat * 6)) (.i (szL fs))).put (5 + ((c - 64).toNat * 6)) (.i (tmL 0 fs))), .a [.b ((x1.getD 0 (.i 0)).toI == 1), .i (numB x2 ((x1.getD 0 (.i 0)).toI == 1)), .l fs.isEmpty fs], ?_, ?_, fun hd => ?_⟩
 ·unfold G133x0x24023 F133x0x24023
  simp only [_root_.cond_false, decide_eq_false (show ¬ c < 16 by omega), bnd_eq, hv, _root_.cond_true, q1, q2, q3, Option.isSome_some, getD_some, l1', l3', i0, G81x0_eq (N := N) hN b2 _ (show x2.length ≤ 4 by omega), q4, G123x0_eq hN fo, wrapI (x := c - 64) (by omega) (by omega), i1]
 ·have hc : by_ bs (a + 4) = by_ bs (a + 4) := rfl
  constructor
  ·intro h
   by_cases h4 : a4 ≥ 0
   ·rw [decide_eq_true h4] at h
    simp only [_root_.cond_true, decide_eq_true_eq] at h
    have g4 : 0 ≤ a3 ∧ a3 + 3 * (x3.getD 0 (.i 0)).toI ≤ bs.length := by
     refine Classical.byContradiction fun hh => ?_
     have := n4 hh; omega
    have g3 : 0 ≤ a2 ∧ a2 + 1 ≤ bs.length := by
     refine Classical.byContradiction fun hh => ?_
     have := n3 hh; omega
    have g2 : 0 ≤ a1 ∧ a1 + 2 ≤ bs.length := by
     refine Classical.byContradiction fun hh => ?_
     have := n2 hh; omega
    have g1 : 0 ≤ a + 1 ∧ a + 1 + 1 ≤ bs.length := by
     refine Classical.byContradiction fun hh => ?_
     have := n1 hh; omega
    obtain ⟨e1, z1⟩ := y1 g1
    obtain ⟨e2, z2⟩ := y2 g2
    obtain ⟨e3, z3⟩ := y3 g3
    have v1 := one_by (by omega) rfl z1
    have v3 := one_by (by omega) rfl z3
    have ea2 : a2 = a + 4 := by omega
    rw [ea2] at v3
    rw [v1] at h
    rw [v3] at g4
    exact ⟨⟨by omega, by omega⟩, h⟩
   ·rw [decide_eq_false h4] at h; exact absurd h (by simp)
  ·rintro ⟨⟨h5, h6⟩, h7⟩
   obtain ⟨e1, z1⟩ := y1 (by omega)
   obtain ⟨e2, z2⟩ := y2 (by omega)
   obtain ⟨e3, z3⟩ := y3 (by omega)
   have v1 := one_by (by omega) rfl z1
   have v3 := one_by (by omega) rfl z3
   have ea2 : a2 = a + 4 := by omega
   rw [ea2] at v3
   obtain ⟨e4, z4⟩ := y4 (by rw [v3]; omega)
   rw [v1, decide_eq_true (show a4 ≥ 0 by omega), decide_eq_true h7]; rfl
 ·obtain ⟨h5, h6⟩ := hd
  obtain ⟨e1, z1⟩ := y1 (by omega)
  obtain ⟨e2, z2⟩ := y2 (by omega)
  obtain ⟨e3, z3⟩ := y3 (by omega)
  have v1 := one_by (by omega) rfl z1
  have v3 := one_by (by omega) rfl z3
  have ea2 : a2 = a + 4 := by omega
  rw [ea2] at v3
  obtain ⟨e4, z4⟩ := y4 (by rw [v3]; omega)
  have ea1 : a1 = a + 2 := by omega
  have ea3 : a3 = a + 5 := by omega
  rw [ea1, show a + 2 + 2 = a + 4 by omega] at z2
  rw [ea3, v3] at z4 e4
  refine ⟨e4, ?_, fun s hs => ?_⟩
  ·unfold defAt
   rw [v1, z2, ← z4]
  ·rw [v1, ← z2, ← z4]
   exact slots_put hs (by omega) fo
/-- The reference's definition. -/
theorem ref_def (hN : maxLen < N) (hb : BytesOk bs) (hl : bs.length ≤ maxLen) {a : Int} (h0 : 0 ≤ a) (h1 : a < bs.length) :
  (¬ (defIn bs a ∧ by_ bs (a + 1) ≤ 1) → ∃ x y z, G135x0 N (bs.drop a.toNat) = some (x, y, z, false)) ∧
  (defIn bs a ∧ by_ bs (a + 1) ≤ 1 → G135x0 N (bs.drop a.toNat) = some (false, [defAt bs a], 5 + 3 * by_ bs (a + 4), true)) := by
 have hm : maxLen = 9223372036854775807 := rfl
 have hlen : ((bs.drop a.toNat).length : Int) = bs.length - a := by simp; omega
 by_cases h5 : a + 5 ≤ bs.length
 ·have e1 : ((bs.drop a.toNat).getD 1 (.i 0)).toI = by_ bs (a + 1) := drop_by (k := 1) h0 (by omega)
  have e4 : ((bs.drop a.toNat).getD 4 (.i 0)).toI = by_ bs (a + 4) := drop_by (k := 4) h0 (by omega)
  have b1 := by_in hb (i := a + 1) (by omega) (by omega)
  have b4 := by_in hb (i := a + 4) (by omega) (by omega)
  have i1 : inB 1 (bs.drop a.toNat).length = true := inB_of (by omega) (by omega)
  have i4 : inB 4 (bs.drop a.toNat).length = true := inB_of (by omega) (by omega)
  have es : ((bs.drop a.toNat).take 4).drop 2 = (bs.take (a + 4).toNat).drop (a + 2).toNat := by
   rw [List.take_drop, List.drop_drop, show a.toNat + 4 = (a + 4).toNat by omega, show a.toNat + 2 = (a + 2).toNat by omega]
  have ln : ((bs.take (a + 4).toNat).drop (a + 2).toNat).length ≤ 4 := by rw [sub_len (by omega)]; omega
  have ne : G135x0 N (bs.drop a.toNat) = bif decide (by_ bs (a + 1) > 1) then some (true, [], 0, false) else bif decide (((bs.drop a.toNat).length : Int) < 5 + 3 * by_ bs (a + 4)) then some (true, [], 0, false) else bnd (G135x0x30 N (bs.drop a.toNat) (by_ bs (a + 4)) 0 true []) fun y4 => bif y4.isSome then some (false, [(.a [(.b (by_ bs (a + 1) == 1)), (.i (numB ((bs.take (a + 4).toNat).drop (a + 2).toNat) (by_ bs (a + 1) == 1))), (.l (y4.getD default).1 (y4.getD default).2)])], 5 + 3 * by_ bs (a + 4), true) else none := by
   unfold G135x0 F135x0
   rw [i1, e1, e4, i4, decide_eq_false (show ¬ ((bs.drop a.toNat).length : Int) < 5 by omega), decide_eq_true (show (4 : Int) ≤ ((bs.drop a.toNat).length : Int) by omega), es, wrapI (x := by_ bs (a + 4)) (by omega) (by omega), wrapI (x := 3 * by_ bs (a + 4)) (by omega) (by omega), G83x0_eq (N := N) hN (hb.sub _ _) _ ln]
   simp only [bnd_eq, wrapI (x := 5 + 3 * by_ bs (a + 4)) (by omega) (by omega)]
   rfl
  rw [ne]
  unfold defIn
  by_cases h6 : by_ bs (a + 1) ≤ 1
  ·rw [decide_eq_false (show ¬ by_ bs (a + 1) > 1 by omega)]
   by_cases h7 : a + 5 + 3 * by_ bs (a + 4) ≤ bs.length
   ·refine ⟨fun h => absurd ⟨⟨h5, h7⟩, h6⟩ h, fun _ => ?_⟩
    rw [decide_eq_false (show ¬ ((bs.drop a.toNat).length : Int) < 5 + 3 * by_ bs (a + 4) by omega), G135x0x30_eq (N := N) hN (hb.drop _) (by omega) (by omega) (by omega) (by omega), trip_drop h0 _ _ (by omega)]
    rfl
   ·refine ⟨fun _ => ?_, fun h => absurd h.1.2 h7⟩
    rw [decide_eq_true (show ((bs.drop a.toNat).length : Int) < 5 + 3 * by_ bs (a + 4) by omega)]
    exact ⟨_, _, _, rfl⟩
  ·refine ⟨fun _ => ?_, fun h => absurd h.2 h6⟩
   rw [decide_eq_true (show by_ bs (a + 1) > 1 by omega)]
   exact ⟨_, _, _, rfl⟩
 ·refine ⟨fun _ => ?_, fun h => absurd h.1.1 h5⟩
  unfold G135x0 F135x0
  rw [decide_eq_true (show ((bs.drop a.toNat).length : Int) < 5 by omega)]
  cases inB 1 (bs.drop a.toNat).length <;> exact ⟨_, _, _, rfl⟩
end
end Go.Proofs.Ytnnofignhdijiaa

/-! Plain laws: one entry read. -/
namespace Go.Proofs.Ytnnofignhdijiaa
open Go Go.AM
set_option maxRecDepth 100000
set_option maxHeartbeats 4000000
set_option linter.unusedVariables false
variable {N : Nat}
section
variable {bs : List D} {p s : D}
theorem def_got (hN : maxLen < N) (hb : BytesOk bs) (hl : bs.length ≤ maxLen) {a c : Int} (h0 : 0 ≤ a) (hd : defIn bs a) (c0 : 64 ≤ c) (c1 : c ≤ 79) {p' : D}
  (hp : ∀ s, Slots p s → Slots p' ((((s.put (0 + (c - 64).toNat * 1) (.b true)).put (16 + (c - 64).toNat * 3) (.b (by_ bs (a + 1) == 1))).put (17 + (c - 64).toNat * 3) (.i (numB ((bs.take (a + 4).toNat).drop (a + 2).toNat) (by_ bs (a + 1) == 1)))).put (18 + (c - 64).toNat * 3) (.l (trip bs (by_ bs (a + 4)).toNat (a + 5)).isEmpty (trip bs (by_ bs (a + 4)).toNat (a + 5)))))
  (hs : Slots p s) : Got N bs a p s 1 (c - 64) 0 [defAt bs a] [] (a + 5 + 3 * by_ bs (a + 4)) p' (5 + 3 * by_ bs (a + 4)) := by
 have hm : maxLen = 9223372036854775807 := rfl
 obtain ⟨h5, h6⟩ := hd
 have b4 := by_in hb (i := a + 4) (by omega) (by omega)
 have tl := trip_len (bs := bs) (by_ bs (a + 4)).toNat (a + 5)
 refine ⟨⟨by simp; omega, by simp, fun x hx => ?_, fun x hx => by simp at hx⟩, by omega, by omega, by omega, ?_, fun _ => ?_, fun h => absurd rfl h⟩
 ·rw [List.mem_singleton.1 hx]
  show (trip bs (by_ bs (a + 4)).toNat (a + 5)).length ≤ maxLen
  omega
 ·obtain ⟨nl, l, q, e⟩ := G65_def (N := N) hN (slot := c - 64) (off := 0) (g := numB ((bs.take (a + 4).toNat).drop (a + 2).toNat) (by_ bs (a + 1) == 1)) (arch := by_ bs (a + 1) == 1) (nl := (trip bs (by_ bs (a + 4)).toNat (a + 5)).isEmpty) (fs := trip bs (by_ bs (a + 4)).toNat (a + 5)) (data := []) (by omega)
  exact ⟨nl, l, q, by rw [e, tl]; omega⟩
 ·refine ⟨_, ?_, hp s hs⟩
  have i1 : inB (c - 64) 16 = true := inB_of (by omega) (by omega)
  have i0 : inB 0 ([defAt bs a] : List D).length = true := rfl
  unfold G74x0 F74x0
  simp only [i1, i0, beq_self_eq_true, _root_.cond_true]
  rfl
theorem entry_read (hN : maxLen < N) (hb : BytesOk bs) (hl : bs.length ≤ maxLen) {a : Int} {nl : Bool} (h0 : 0 ≤ a) (h1 : a ≤ bs.length) (hnl : nl = true → bs = []) (hs : Slots p s) :
  ∃ kind slot off dn ds xn data ok a' p' r2, G133x0 N a nl bs p = some (kind, slot, off, dn, ds, xn, data, ok, a', p') ∧ G84x0 N (bs.drop a.toNat) s = some r2 ∧ r2.2.2.2.2.2.2.2.2 = ok ∧
   (ok = true → ∃ n, r2 = (kind, slot, off, dn, ds, xn, data, n, true) ∧ Got N bs a p s kind slot off ds data a' p' n) := by
 have hm : maxLen = 9223372036854775807 := rfl
 by_cases he : a = bs.length
 ·have er : bs.drop a.toNat = [] := List.drop_eq_nil_of_le (by omega)
  have q0 := piece_no (N := N) (n := 1) (nl := nl) (by omega) (by omega) hl (by omega) h1 (a := a) (by omega)
  rw [er]
  have ep : G133x0 N a nl bs p = some (2, 0, 0, true, [], true, [], false, -1, p) := by
   unfold G133x0 F133x0
   rw [q0]
   rfl
  exact ⟨_, _, _, _, _, _, _, _, _, _, _, ep, rfl, rfl, fun h => absurd h (by decide)⟩
 ·have h1 : a < bs.length := by omega
  have hn : nl = false := by
   cases nl with
   | false => rfl
   | true => rw [hnl rfl] at h1; simp at h1; omega
  subst hn
  have hlen : ((bs.drop a.toNat).length : Int) = bs.length - a := by simp; omega
  have q0 := piece_ok (N := N) (n := 1) (nl := false) (by omega) hl h0 (show a + 1 ≤ bs.length by omega)
  have l0 : ((bs.take (a + 1).toNat).drop a.toNat).length = 1 := by rw [sub_len (by omega)]; omega
  have v0 : (((bs.take (a + 1).toNat).drop a.toNat).getD 0 (.i 0)).toI = by_ bs a := one_by h0 rfl rfl
  have v1 : ((bs.drop a.toNat).getD 0 (.i 0)).toI = by_ bs a := by
   have := drop_by (bs := bs) (k := 0) h0 (by omega)
   rw [Int.add_zero] at this
   exact this
  obtain ⟨c0, c1⟩ := by_in hb h0 h1
  have i0 : inB 0 1 = true := rfl
  have i2 : inB 0 (bs.drop a.toNat).length = true := inB_of (by omega) (by omega)
  have z2 : (((bs.drop a.toNat).length : Int) == 0) = false := by simp; omega
  unfold G133x0 F133x0 G84x0 F84x0
  rw [q0, z2]
  simp only [bnd_eq, Option.isSome_some, getD_some, _root_.cond_true, _root_.cond_false, l0, i0, i2, v0, v1, wrapI (x := by_ bs a) (by omega) (by omega)]
  generalize hc : by_ bs a = c at c0 c1
  by_cases c2 : c ≥ 128
  ·have w1 : IntKind.wrap .i64 (c - 128) = c - 128 := wrapI (by omega) (by omega)
   have m1 : (c - 128).tdiv 32 = (c - 128) / 32 := Int.tdiv_eq_ediv_of_nonneg (by omega)
   have m2 : c.tmod 32 = c % 32 := Int.tmod_eq_emod_of_nonneg (by omega)
   have g1 : G133x0x24023 N c true (a + 1) false bs p = some (.inl (3, (c - 128) / 32, c % 32)) := by
    unfold G133x0x24023 F133x0x24023
    rw [w1, m1, m2, wrapI (by omega) (by omega)]; rfl
   have g2 : G84x0x24023 N (bs.drop a.toNat) c true = some (.inl (3, (c - 128) / 32, c % 32)) := by
    unfold G84x0x24023 F84x0x24023
    rw [w1, m1, m2, wrapI (by omega) (by omega)]; rfl
   rw [decide_eq_true c2, g1, g2]
   obtain ⟨data, dn, dn2, data2, ok, a', n, t1, t2, t3⟩ := data_read (N := N) hN hb hl h0 h1 hs (kind := 3) (slot := (c - 128) / 32) (off := c % 32) (.inr rfl) (by omega) (by omega)
   refine ⟨3, (c - 128) / 32, c % 32, true, [], dn, data, ok, a', p, _, t1, t2, rfl, fun hok => ?_⟩
   obtain ⟨e1, e2, e3⟩ := t3 hok
   exact ⟨n, by rw [e1, e2, hok], e3⟩
  ·rw [decide_eq_false c2]
   by_cases c3 : c < 16
   ·have g1 : G133x0x24023 N c false (a + 1) false bs p = some (.inl (2, c, 0)) := by
     unfold G133x0x24023 F133x0x24023
     rw [decide_eq_true c3]; rfl
    have g2 : G84x0x24023 N (bs.drop a.toNat) c false = some (.inl (2, c, 0)) := by
     unfold G84x0x24023 F84x0x24023
     rw [decide_eq_false (show ¬ c ≥ 80 by omega), decide_eq_false (show ¬ c ≥ 16 by omega), decide_eq_false (show ¬ c ≥ 64 by omega)]; rfl
    rw [g1, g2]
    obtain ⟨data, dn, dn2, data2, ok, a', n, t1, t2, t3⟩ := data_read (N := N) hN hb hl h0 h1 hs (kind := 2) (slot := c) (off := 0) (.inl rfl) (by omega) (by omega)
    refine ⟨2, c, 0, true, [], dn, data, ok, a', p, _, t1, t2, rfl, fun hok => ?_⟩
    obtain ⟨e1, e2, e3⟩ := t3 hok
    exact ⟨n, by rw [e1, e2, hok], e3⟩
   ·by_cases c4 : 64 ≤ c ∧ c ≤ 79
    ·obtain ⟨c4, c5⟩ := c4
     obtain ⟨ok, a', p', d, g1, ho, hd⟩ := prog_def (N := N) (p := p) hN hb hl (nl := false) h0 h1 c4 c5
     obtain ⟨r1, r2⟩ := ref_def (N := N) hN hb hl h0 h1
     have w1 : IntKind.wrap .i64 (c - 64) = c - 64 := wrapI (by omega) (by omega)
     have g2 : ∀ y, G135x0 N (bs.drop a.toNat) = some y → G84x0x24023 N (bs.drop a.toNat) c false = some (.inr (.inr (y.2.2.1, y.2.2.2, c - 64, y.1, y.2.1))) := fun y hy => by
      unfold G84x0x24023 F84x0x24023
      rw [decide_eq_false (show ¬ c ≥ 80 by omega), decide_eq_true (show c ≥ 16 by omega), decide_eq_false (show ¬ c < 64 by omega), decide_eq_true (show c ≥ 64 by omega), hy, w1]; rfl
     rw [g1]
     by_cases hy : defIn bs a ∧ by_ bs (a + 1) ≤ 1
     ·have hok : ok = true := ho.2 hy
      obtain ⟨e1, e2, e3⟩ := hd hy.1
      rw [g2 _ (r2 hy)]
      subst hok e1 e2
      exact ⟨1, c - 64, 0, false, [defAt bs a], true, [], true, _, p', _, rfl, rfl, rfl, fun _ => ⟨_, rfl, def_got hN hb hl h0 hy.1 c4 c5 e3 hs⟩⟩
     ·have hok : ok = false := by
       cases ok with
       | false => rfl
       | true => exact absurd (ho.1 rfl) hy
      obtain ⟨x, y, z, e⟩ := r1 hy
      rw [g2 _ e]
      subst hok
      exact ⟨1, c - 64, 0, false, [d], true, [], false, _, p', _, rfl, rfl, rfl, fun h => absurd h (by decide)⟩
    ·have hv : V52x0 N c 64 79 = false := by
      rw [V52x0_eq]; unfold inI; simp; omega
     have g1 : G133x0x24023 N c false (a + 1) false bs p = some (.inr (.inr ())) := by
      unfold G133x0x24023 F133x0x24023
      rw [decide_eq_false c3, hv]; rfl
     have g2 : G84x0x24023 N (bs.drop a.toNat) c false = some (.inr (.inl ())) := by
      unfold G84x0x24023 F84x0x24023
      have e : (bif decide (c ≥ 80) then true else bif decide (c ≥ 16) then decide (c < 64) else false) = true := by
       by_cases h : c ≥ 80
       ·rw [decide_eq_true h]; rfl
       ·rw [decide_eq_false h, decide_eq_true (show c ≥ 16 by omega), decide_eq_true (show c < 64 by omega)]; rfl
      rw [e]; rfl
     rw [g1, g2]
     exact ⟨0, 0, 0, true, [], true, [], false, _, p, _, rfl, rfl, rfl, fun h => absurd h (by decide)⟩
end
end Go.Proofs.Ytnnofignhdijiaa

/-! Plain laws: Read and Salvage. -/
namespace Go.Proofs.Ytnnofignhdijiaa
open Go Go.AM
set_option maxRecDepth 100000
set_option maxHeartbeats 4000000
set_option linter.unusedVariables false
variable {N : Nat}
section
variable {b : List D}
/-- A list of entries that are possible. -/
structure Lst (l : List D) : Prop where
 e : ∀ x ∈ l, EntD x
 n : l.length ≤ 10000000
theorem Lst.nil : Lst [] := ⟨by simp, by simp⟩
theorem drop_body {L i : Int} (hi : 0 ≤ i) : (b.take L.toNat).drop (8 + i).toNat = ((b.take L.toNat).drop 8).drop i.toNat := by
 rw [List.drop_drop, show (8 + i).toNat = 8 + i.toNat by omega]
theorem read_loop (hN : maxLen < N) (hb : BytesOk b) (hl : b.length ≤ 4000000) (h12 : 12 ≤ b.length) {nl : Bool} (hnl : nl = true → b = []) : ∀ (m : Nat) (i : Int) (p s : D) (f : Bool) (acc : List D), 0 ≤ i → i ≤ b.length - 12 → ((b.length : Int) - 12 - i).toNat < m → Slots p s → (acc.length : Int) ≤ i → (∀ x ∈ acc, EntD x) →
  ∃ r : Sum (Int × Bool × LD) (Bool × LD), L35x0x33 N ((b.take ((b.length : Int) - 4).toNat).drop 8) nl ((b.take ((b.length : Int) - 4).toNat).drop 8) m i f acc i p (fun p => some (.inl p)) (fun p => some (.inr p)) = some r ∧
   L36x0x33 N b ((b.length : Int) - 4) m (8 + i) s f acc (fun p => some (.inl p)) (fun p => some (.inr p)) = some r ∧ (∀ x, r = .inr x → Lst x.2) := by
 have hm : maxLen = 9223372036854775807 := rfl
 have lb : (((b.take ((b.length : Int) - 4).toNat).drop 8).length : Int) = b.length - 12 := by simp; omega
 have hb' : BytesOk ((b.take ((b.length : Int) - 4).toNat).drop 8) := hb.sub _ _
 have hnl' : nl = true → (b.take ((b.length : Int) - 4).toNat).drop 8 = [] := fun h => by rw [hnl h]; rfl
 intro m
 induction m with
 | zero => intro i p s f acc _ _ h; omega
 | succ m ih =>
  intro i p s f acc h0 h1 hmm hs ha he
  unfold L35x0x33 L36x0x33 S35x0x33 S36x0x33
  by_cases hi : i < b.length - 12
  ·obtain ⟨kind, slot, off, dn, ds, xn, data, ok, a', p', r2, q1, q2, eo, hg⟩ := entry_read (N := N) (p := p) (s := s) hN hb' (by omega) (a := i) (nl := nl) h0 (by omega) hnl' hs
   rw [decide_eq_true (show i < (((b.take ((b.length : Int) - 4).toNat).drop 8).length : Int) by omega), decide_eq_true (show 8 + i < (b.length : Int) - 4 by omega), decide_eq_true (show (0 : Int) ≤ 8 + i by omega), decide_eq_true (show 8 + i ≤ (b.length : Int) - 4 by omega), decide_eq_true (show (b.length : Int) - 4 ≤ (b.length : Int) by omega), drop_body h0, q1, q2]
   simp only [_root_.cond_true, bnd_eq, Option.isSome_some, getD_some, Bool.and_self, eo]
   cases ok with
   | false =>
    refine ⟨.inl (8 + i, f, acc), ?_, rfl, fun x hx => by simp at hx⟩
    simp only [Bool.not_false, _root_.cond_true]
    rw [wrapI (by omega) (by omega)]
   | true =>
    obtain ⟨n, rfl, g⟩ := hg rfl
    have ga := g.a
    have gn := g.n1
    have gl := g.le
    obtain ⟨gnl, gl2, g65, g65l⟩ := g.len
    have r1 : decide ((acc.length + 1) * 72 ≤ room) = true := decide_eq_true (by unfold room; omega)
    have r2 : decide (acc.length + 1 ≤ strMax) = true := decide_eq_true (by unfold strMax; omega)
    have h50 : ∃ s', G36x0x50 N (kind == 1) kind slot off ds data s = some s' ∧ Slots p' s' := by
     unfold G36x0x50 F36x0x50
     by_cases hk : kind = 1
     ·obtain ⟨s', e1, e2⟩ := g.d hk
      have hk' : (kind == 1) = true := by simpa using hk
      rw [hk', e1]
      exact ⟨s', rfl, e2⟩
     ·have hk' : (kind == 1) = false := by simpa using hk
      rw [hk', g.o hk]
      exact ⟨s, rfl, hs⟩
    obtain ⟨s', e50, hs'⟩ := h50
    simp only [Bool.not_true, _root_.cond_false, r1, r2, Bool.and_self, _root_.cond_true, g65, e50, Option.isSome_some, getD_some]
    rw [wrapI (x := i + (gl2.length : Int)) (by omega) (by omega), wrapI (x := 8 + i + n) (by omega) (by omega), show i + (gl2.length : Int) = i + n by omega, ga, show 8 + i + n = 8 + (i + n) by omega]
    refine ih (i + n) p' s' false _ (by omega) (by omega) (by omega) hs' (by simp; omega) ?_
    intro x hx
    rcases List.mem_append.1 hx with hx | hx
    ·exact he x hx
    ·rw [List.mem_singleton.1 hx]
     exact g.e
  ·rw [decide_eq_false (show ¬ i < (((b.take ((b.length : Int) - 4).toNat).drop 8).length : Int) by omega), decide_eq_false (show ¬ 8 + i < (b.length : Int) - 4 by omega)]
   exact ⟨.inr (f, acc), rfl, rfl, fun x hx => by simp at hx; subst hx; exact ⟨he, by simp only; omega⟩⟩
theorem zero82 : Slots (V82x0 N) zeroS := zero_slots _ (by kernel_rfl)
theorem head_eq (hN : maxLen < N) (hb : BytesOk b) (hl : b.length ≤ maxLen) : ∃ y, G35x0x10 N b = some y ∧ G36x0x10 N b = some y ∧ (y = false → 12 ≤ b.length) := by
 have hm : maxLen = 9223372036854775807 := rfl
 unfold G35x0x10 F35x0x10 G36x0x10 F36x0x10
 by_cases h : (b.length : Int) < 12
 ·rw [decide_eq_true h]; exact ⟨true, rfl, rfl, fun h => absurd h (by decide)⟩
 ·rw [decide_eq_false h, decide_eq_true (show (4 : Int) ≤ (b.length : Int) by omega), decide_eq_true (show (8 : Int) ≤ (b.length : Int) by omega)]
  simp only [_root_.cond_false, _root_.cond_true, bnd_eq]
  cases (!(strD ((b.take 4).drop 0)) == ([72, 65, 82, 49] : List UInt8)) with
  | true => exact ⟨true, rfl, rfl, fun h => absurd h (by decide)⟩
  | false =>
   have ln : ((b.take 8).drop 4).length ≤ 4 := by simp; omega
   rw [G81x0_eq (N := N) hN (hb.sub 4 8) _ ln, G83x0_eq (N := N) hN (hb.sub 4 8) _ ln, wrapI (x := (b.length : Int) - 8) (by omega) (by omega), wrapI (x := (b.length : Int) - 8 - 4) (by omega) (by omega), wrapI (x := (b.length : Int) - 12) (by omega) (by omega), show (b.length : Int) - 8 - 4 = (b.length : Int) - 12 by omega]
   exact ⟨_, rfl, rfl, fun _ => by omega⟩
theorem read_eq (hN : maxLen < N) (hb : BytesOk b) (hl : b.length ≤ maxLen) {nl : Bool} (hnl : nl = true → b = []) : ∃ r, G35x0 N nl b = some r ∧ G36x0 N b = some r ∧ Lst r.2.1 := by
 have hm : maxLen = 9223372036854775807 := rfl
 by_cases h4 : (b.length : Int) > 4000000
 ·unfold G35x0 F35x0 G36x0 F36x0
  rw [decide_eq_true h4]; exact ⟨_, rfl, rfl, Lst.nil⟩
 ·obtain ⟨y, q1, q2, hy⟩ := head_eq (N := N) hN hb hl
  cases y with
  | true =>
   unfold G35x0 F35x0 G36x0 F36x0
   rw [decide_eq_false h4, q1, q2]; exact ⟨_, rfl, rfl, Lst.nil⟩
  | false =>
   have h12 := hy rfl
   have w4 : IntKind.wrap .i64 ((b.length : Int) - 4) = (b.length : Int) - 4 := wrapI (by omega) (by omega)
   have b0 : BytesOk ((b.take ((b.length : Int) - 4).toNat).drop 0) := hb.sub _ _
   have l0 : ((b.take ((b.length : Int) - 4).toNat).drop 0).length ≤ maxLen := by simp; omega
   have b1 : BytesOk ((b.take (b.length : Int).toNat).drop ((b.length : Int) - 4).toNat) := hb.sub _ _
   have l1 : ((b.take (b.length : Int).toNat).drop ((b.length : Int) - 4).toNat).length ≤ 4 := by simp; omega
   obtain ⟨r, z1, z2, z3⟩ := read_loop (N := N) hN hb (by omega) h12 hnl N 0 (V82x0 N) zeroS true [] (by omega) (by omega) (by omega) zero82 (by simp) (by simp)
   have y1 : G35x0x33 N ((b.take ((b.length : Int) - 4).toNat).drop 8) nl ((b.take ((b.length : Int) - 4).toNat).drop 8) 0 true [] 0 (V82x0 N) = some r := z1
   have y2 : G36x0x33 N b ((b.length : Int) - 4) 8 zeroS true [] = some r := z2
   have k1 : G35x0 N nl b = bif sumL 1 ((b.take ((b.length : Int) - 4).toNat).drop 0) != numB ((b.take (b.length : Int).toNat).drop ((b.length : Int) - 4).toNat) true then some (true, [], 0, 1) else
     bnd (G35x0x33 N ((b.take ((b.length : Int) - 4).toNat).drop 8) nl ((b.take ((b.length : Int) - 4).toNat).drop 8) 0 true [] 0 (V82x0 N)) fun y7 => bif (inlB y7) then some (true, [], (inlV y7).1, 6) else bif (inrQ y7).isSome then bnd (G22x0 N ((inrQ y7).getD default).2) fun y8 =>
      bif y8.isSome then bif ((y8.getD default) != 0) then some (true, [], 0, (y8.getD default)) else some (((inrQ y7).getD default).1, ((inrQ y7).getD default).2, 0, 0) else none else none := by
    unfold G35x0 F35x0
    rw [decide_eq_false h4, q1, w4]
    simp only [_root_.cond_false, bnd_eq, Option.isSome_some, getD_some, _root_.cond_true, G39x0_eq (N := N) hN b0 l0, G81x0_eq (N := N) hN b1 _ l1]
    rw [decide_eq_true (show (0 : Int) ≤ (b.length : Int) - 4 by omega), decide_eq_true (show (b.length : Int) - 4 ≤ (b.length : Int) by omega), decide_eq_true (Int.le_refl (b.length : Int)), decide_eq_true (show (8 : Int) ≤ (b.length : Int) - 4 by omega)]
    rfl
   have k2 : G36x0 N b = bif numB ((b.take (b.length : Int).toNat).drop ((b.length : Int) - 4).toNat) true != sumL 1 ((b.take ((b.length : Int) - 4).toNat).drop 0) then some (true, [], 0, 1) else
     bnd (G36x0x33 N b ((b.length : Int) - 4) 8 zeroS true []) fun y7 => bif (inlB y7) then some (true, [], (inlV y7).1, 6) else bif (inrQ y7).isSome then bnd (G23x0 N ((inrQ y7).getD default).2) fun y8 =>
      bif y8.isSome then bif ((y8.getD default) != 0) then some (true, [], 0, (y8.getD default)) else some (((inrQ y7).getD default).1, ((inrQ y7).getD default).2, 0, 0) else none else none := by
    unfold G36x0 F36x0
    rw [decide_eq_false h4, q2, w4]
    simp only [_root_.cond_false, bnd_eq, Option.isSome_some, getD_some, _root_.cond_true, G40x0_eq (N := N) hN b0 l0, G83x0_eq (N := N) hN b1 _ l1]
    rw [decide_eq_true (show (0 : Int) ≤ (b.length : Int) - 4 by omega), decide_eq_true (show (b.length : Int) - 4 ≤ (b.length : Int) by omega), decide_eq_true (Int.le_refl (b.length : Int))]
    rfl
   rw [k1, k2, y1, y2]
   have eb : (numB ((b.take (b.length : Int).toNat).drop ((b.length : Int) - 4).toNat) true != sumL 1 ((b.take ((b.length : Int) - 4).toNat).drop 0)) = (sumL 1 ((b.take ((b.length : Int) - 4).toNat).drop 0) != numB ((b.take (b.length : Int).toNat).drop ((b.length : Int) - 4).toNat) true) := bne_comm
   rw [eb]
   cases (sumL 1 ((b.take ((b.length : Int) - 4).toNat).drop 0) != numB ((b.take (b.length : Int).toNat).drop ((b.length : Int) - 4).toNat) true) with
   | true => exact ⟨_, rfl, rfl, Lst.nil⟩
   | false =>
    cases r with
    | inl x => exact ⟨_, rfl, rfl, Lst.nil⟩
    | inr x =>
     obtain ⟨c, c1, c2⟩ := check_file (N := N) (es := x.2) hN (z3 x rfl).e
     simp only [bnd_eq, _root_.cond_false]
     have e1 : ((inrQ (some (Sum.inr x : Sum (Int × Bool × LD) (Bool × LD)))).getD default) = x := rfl
     rw [e1, c1, c2]
     cases hc : c != 0 with
     | true => exact ⟨(true, [], 0, c), by simp [inlB, inrQ, hc], by simp [inlB, inrQ, hc], Lst.nil⟩
     | false => exact ⟨(x.1, x.2, 0, 0), by simp [inlB, inrQ, hc], by simp [inlB, inrQ, hc], z3 x rfl⟩
end
end Go.Proofs.Ytnnofignhdijiaa

/-! Plain laws: Salvage. -/
namespace Go.Proofs.Ytnnofignhdijiaa
open Go Go.AM
set_option maxRecDepth 100000
set_option maxHeartbeats 4000000
set_option linter.unusedVariables false
variable {N : Nat}
section
variable {b : List D}
theorem salvage_loop (hN : maxLen < N) (hb : BytesOk b) (hl : b.length ≤ maxLen) (h8 : 8 ≤ b.length) {nl : Bool} (hnl : nl = true → b = []) : ∀ (m : Nat) (i : Int) (p w s : D) (f : Bool) (acc : List D), 0 ≤ i → i ≤ b.length - 8 → ((b.length : Int) - 8 - i).toNat < m → Slots p s → Sim w s acc.length → acc.length ≤ 50000 → (∀ x ∈ acc, EntD x) →
  ∃ r : Int × Bool × LD, L37x0x21 N b nl ((b.take (b.length : Int).toNat).drop 8) m (8 + i) f acc i p w (fun p => some p) = some r ∧ L38x0x18 N b m (8 + i) s f acc (fun p => some p) = some r ∧ Lst r.2.2 := by
 have hm : maxLen = 9223372036854775807 := rfl
 have lb : (((b.take (b.length : Int).toNat).drop 8).length : Int) = b.length - 8 := by simp; omega
 have hb' : BytesOk ((b.take (b.length : Int).toNat).drop 8) := hb.sub _ _
 have hnl' : nl = true → (b.take (b.length : Int).toNat).drop 8 = [] := fun h => by rw [hnl h]; rfl
 intro m
 induction m with
 | zero => intro i p w s f acc _ _ h; omega
 | succ m ih =>
  intro i p w s f acc h0 h1 hmm hs hw ha he
  unfold L37x0x21 L38x0x18 S37x0x21 S38x0x18
  by_cases hlen : (acc.length : Int) < 50000
  ·rw [decide_eq_true hlen, decide_eq_true (show (0 : Int) ≤ 8 + i by omega), decide_eq_true (show 8 + i ≤ (b.length : Int) by omega), decide_eq_true (Int.le_refl (b.length : Int)), drop_body h0]
   obtain ⟨kind, slot, off, dn, ds, xn, data, ok, a', p', r2, q1, q2, eo, hg⟩ := entry_read (N := N) (p := p) (s := s) hN hb' (by omega) (a := i) (nl := nl) h0 (by omega) hnl' hs
   rw [q2]
   by_cases hi : i < b.length - 8
   ·rw [decide_eq_true (show 8 + i < (b.length : Int) by omega), q1]
    simp only [_root_.cond_true, bnd_eq, Option.isSome_some, getD_some, Bool.and_self, eo]
    cases ok with
    | false => exact ⟨_, rfl, rfl, ⟨he, by simp only; omega⟩⟩
    | true =>
     obtain ⟨n, rfl, g⟩ := hg rfl
     have ga := g.a
     have gn := g.n1
     have gl := g.le
     obtain ⟨gnl, gl2, g65, g65l⟩ := g.len
     have r1 : decide ((acc.length + 1) * 72 ≤ room) = true := decide_eq_true (by unfold room; omega)
     have r2 : decide (acc.length + 1 ≤ strMax) = true := decide_eq_true (by unfold strMax; omega)
     have e28 : G37x0x28 N true kind slot off ds data w = some (entE kind slot off ds data (w.cell (0 + slot.toNat * 6)).toB (w.cell (4 + slot.toNat * 6)).toI (w.cell (5 + slot.toNat * 6)).toI (w.cell 96).toI != 0) := by
      unfold G37x0x28 F37x0x28
      rw [G71x0_eq hN hw g.e]; rfl
     have e25 : G38x0x25 N true kind slot off ds data s = some (entE kind slot off ds data (w.cell (0 + slot.toNat * 6)).toB (w.cell (4 + slot.toNat * 6)).toI (w.cell (5 + slot.toNat * 6)).toI (w.cell 96).toI != 0) := by
      unfold G38x0x25 F38x0x25
      rw [G73x0_eq hN hw g.e]; rfl
     simp only [e28, e25, Option.isSome_some, getD_some, _root_.cond_true]
     cases hE : (entE kind slot off ds data (w.cell (0 + slot.toNat * 6)).toB (w.cell (4 + slot.toNat * 6)).toI (w.cell (5 + slot.toNat * 6)).toI (w.cell 96).toI != 0) with
     | true => exact ⟨_, rfl, rfl, ⟨he, by simp only; omega⟩⟩
     | false =>
      obtain ⟨t, w', s', t1, t2, hw', _, _, hq⟩ := take_sim hN hw g.e (by omega) (by omega) (entE_ok (by simpa using hE))
      have hs' : Slots p' s' := by
       by_cases hk : kind = 1
       ·obtain ⟨s'', e1, e2⟩ := g.d hk
        rw [t2] at e1
        simp only [Option.some.injEq, Prod.mk.injEq] at e1
        rw [e1.2]; exact e2
       ·rw [g.o hk]; exact hq hk p hs
      simp only [t1, t2, r1, r2, Bool.and_self, _root_.cond_true, _root_.cond_false, g65, Option.isSome_some, getD_some]
      rw [wrapI (x := 8 + i + (gl2.length : Int)) (by omega) (by omega), wrapI (x := 8 + i + n) (by omega) (by omega), show 8 + i + (gl2.length : Int) = 8 + (i + n) by omega, ga, show 8 + i + n = 8 + (i + n) by omega]
      refine ih (i + n) p' w' s' false _ (by omega) (by omega) (by omega) hs' ?_ (by simp; omega) ?_
      ·simpa using hw'
      ·intro x hx
       rcases List.mem_append.1 hx with hx | hx
       ·exact he x hx
       ·rw [List.mem_singleton.1 hx]
        exact g.e
   ·have hi' : i = b.length - 8 := by omega
    have hok : ok = false := by
     cases ok with
     | false => rfl
     | true =>
      obtain ⟨n, _, g⟩ := hg rfl
      have ga := g.a
      have gn := g.n1
      have gl := g.le
      omega
    rw [decide_eq_false (show ¬ 8 + i < (b.length : Int) by omega)]
    simp only [_root_.cond_true, _root_.cond_false, bnd_eq, Option.isSome_some, getD_some, Bool.and_self, eo, hok]
    exact ⟨_, rfl, rfl, ⟨he, by simp only; omega⟩⟩
  ·rw [decide_eq_false hlen]
   have e : (bif decide (8 + i < (b.length : Int)) then false else false) = false := by cases decide (8 + i < (b.length : Int)) <;> rfl
   simp only [bnd_eq, e, _root_.cond_false]
   exact ⟨_, rfl, rfl, ⟨he, by simp only; omega⟩⟩
theorem salvage_eq (hN : maxLen < N) (hb : BytesOk b) (hl : b.length ≤ maxLen) {nl : Bool} (hnl : nl = true → b = []) : ∃ r, G37x0 N nl b = some r ∧ G38x0 N b = some r ∧ Lst r.2.1 := by
 have hm : maxLen = 9223372036854775807 := rfl
 by_cases h8 : (b.length : Int) < 8
 ·unfold G37x0 F37x0 G38x0 F38x0
  rw [decide_eq_true h8]; exact ⟨_, rfl, rfl, Lst.nil⟩
 ·obtain ⟨r, z1, z2, z3⟩ := salvage_loop (N := N) hN hb hl (by omega) hnl N 0 (V82x0 N) (V70x0 N) zeroS true [] (by omega) (by omega) (by omega) zero82 zero70 (by simp) (by simp)
  have y1 : G37x0x21 N b nl ((b.take (b.length : Int).toNat).drop 8) 8 true [] 0 (V82x0 N) (V70x0 N) = some r := z1
  have y2 : G38x0x18 N b 8 zeroS true [] = some r := z2
  have k1 : G37x0 N nl b = bnd (G37x0x21 N b nl ((b.take (b.length : Int).toNat).drop 8) 8 true [] 0 (V82x0 N) (V70x0 N)) fun y2 => bif y2.isSome then some ((y2.getD default).2.1, (y2.getD default).2.2, (y2.getD default).1) else none := by
   unfold G37x0 F37x0
   rw [decide_eq_false h8, decide_eq_true (show (8 : Int) ≤ (b.length : Int) by omega), decide_eq_true (Int.le_refl (b.length : Int))]
   rfl
  have k2 : G38x0 N b = bnd (G38x0x18 N b 8 zeroS true []) fun y2 => bif y2.isSome then some ((y2.getD default).2.1, (y2.getD default).2.2, (y2.getD default).1) else none := by
   unfold G38x0 F38x0
   rw [decide_eq_false h8]
   rfl
  rw [k1, k2, y1, y2]
  exact ⟨_, rfl, rfl, z3⟩
end
end Go.Proofs.Ytnnofignhdijiaa

/-! Plain laws: what the law compares is the same as itself. -/
namespace Go.Proofs.Ytnnofignhdijiaa
open Go Go.AM
set_option maxRecDepth 100000
set_option maxHeartbeats 4000000
set_option linter.unusedVariables false
variable {N : Nat}
theorem zipAll_true : ∀ xs : List D, zipAll (fun _ _ => true) xs xs = true
 | [] => rfl
 | x :: r => by simp only [zipAll, Bool.true_and]; exact zipAll_true r
theorem inB_mem {xs : List D} {w : Int} (h : inB w xs.length = true) : xs.getD w.toNat (.i 0) ∈ xs := by
 unfold inB at h
 simp at h
 exact getD_mem h.1 h.2
/-- A loop over a list and itself that finds nothing. -/
theorem refl_ind {xs : List D} {S : Int → (Int → Option (Sum Unit Unit)) → Option (Sum Unit Unit)} {L : Nat → Int → Option (Sum Unit Unit)} (hL : ∀ m a, L (m + 1) a = S a (L m)) (hlen : xs.length ≤ maxLen)
  (hend : ∀ kr, S xs.length kr = some (.inr ()))
  (hstep : ∀ (w : Int) (kr : Int → Option (Sum Unit Unit)), decide (w < xs.length) = true → inB w xs.length = true → xs.getD w.toNat (.i 0) ∈ xs → S w kr = kr (IntKind.wrap .i64 (w + 1)))
  (hN : maxLen < N) : L N 0 = some (.inr ()) := by
 have := zip_ind (xs := xs) (ys := xs) (fun _ _ => true) hL hlen rfl hend (fun w kr h1 h2 _ => by rw [hstep w kr h1 h2 (inB_mem h2)]; rfl) hN
 rw [this, zipAll_true]
 rfl
section
variable {xs : List D}
theorem len_self (xs : List D) : ((xs.length : Int) != (xs.length : Int)) = false := by simp
theorem G140_refl (hN : maxLen < N) (hl : xs.length ≤ maxLen) : G140x0 N xs xs = some true := by
 have k : G140x0x12 N xs xs xs.length 0 = some (.inr ()) := by
  refine refl_ind (S := fun w kr => S140x0x12 N xs xs xs.length w kr _ _) (L := fun m w => L140x0x12 N xs xs xs.length m w _ _) (fun m w => rfl) hl (fun kr => by simp [S140x0x12]) (fun w kr h1 h2 h3 => ?_) hN
  unfold S140x0x12
  rw [h1, h2]
  simp [bnd_eq]
 unfold G140x0 F140x0
 rw [len_self, k]; rfl
theorem G25_refl (hN : maxLen < N) (hl : xs.length ≤ maxLen) : G25x0 N xs xs = some true := by
 have k : G25x0x12 N xs xs xs.length 0 = some (.inr ()) := by
  refine refl_ind (S := fun w kr => S25x0x12 N xs xs xs.length w kr _ _) (L := fun m w => L25x0x12 N xs xs xs.length m w _ _) (fun m w => rfl) hl (fun kr => by simp [S25x0x12]) (fun w kr h1 h2 h3 => ?_) hN
  unfold S25x0x12
  rw [h1, h2]
  simp [bnd_eq]
 unfold G25x0 F25x0
 rw [len_self, k]; rfl
theorem G104_refl (hN : maxLen < N) (hl : xs.length ≤ maxLen) (a : Bool) (g : Int) : G104x0 N a g xs a g xs = some true := by
 unfold G104x0 F104x0 G104x0x4 F104x0x4
 rw [G140_refl hN hl]
 simp [bnd_eq]
theorem G103_refl (hN : maxLen < N) (hl : xs.length ≤ maxLen) (hf : ∀ x ∈ xs, (x.cell 2).items.length ≤ maxLen) : G103x0 N xs xs = some true := by
 have k : G103x0x12 N xs xs xs.length 0 = some (.inr ()) := by
  refine refl_ind (S := fun w kr => S103x0x12 N xs xs xs.length w kr _ _) (L := fun m w => L103x0x12 N xs xs xs.length m w _ _) (fun m w => rfl) hl (fun kr => by simp [S103x0x12]) (fun w kr h1 h2 h3 => ?_) hN
  unfold S103x0x12
  rw [h1, h2, G104_refl hN (hf _ h3)]
  simp [bnd_eq]
 unfold G103x0 F103x0
 rw [len_self, k]; rfl
theorem G48_refl (hN : maxLen < N) {ds data : List D} (h : EntL ds data) (a b c : Int) : G48x0 N a b c ds data a b c ds data = some true := by
 unfold G48x0 F48x0 G48x0x4 F48x0x4
 rw [G103_refl hN h.d h.f, G25_refl hN h.b]
 simp [bnd_eq]
theorem G77_refl (hN : maxLen < N) (h : Lst xs) : G77x0 N xs xs = some true := by
 have hm : maxLen = 9223372036854775807 := rfl
 have hn := h.n
 have hl : xs.length ≤ maxLen := by omega
 have k : G77x0x12 N xs xs xs.length 0 = some (.inr ()) := by
  refine refl_ind (S := fun w kr => S77x0x12 N xs xs xs.length w kr _ _) (L := fun m w => L77x0x12 N xs xs xs.length m w _ _) (fun m w => rfl) hl (fun kr => by simp [S77x0x12]) (fun w kr h1 h2 h3 => ?_) hN
  unfold S77x0x12
  rw [h1, h2, G48_refl hN (h.e _ h3)]
  simp [bnd_eq]
 unfold G77x0 F77x0
 rw [len_self, k]; rfl
theorem G28_refl (hN : maxLen < N) (h : Lst xs) : G28x0 N xs xs = some true := by
 unfold G28x0 F28x0
 rw [G77_refl hN h]; rfl
end
end Go.Proofs.Ytnnofignhdijiaa

namespace Go.Proofs.Ytnnofignhdijiaa
open Go Go.AM
set_option maxRecDepth 100000
set_option maxHeartbeats 4000000
theorem told_ok : G17x0 18446744073709551616 = some true := by kernel_rfl
/-- A law's bytes, typed. -/
theorem kinds37 : kinds Try.prog 37 = [.sl 5] := by kernel_rfl
theorem kinds5 : kinds Try.prog 5 = [.int .u8] := by kernel_rfl
theorem byte_ok {m : Nat} {x : D} (h : TyEl Try.prog (TyK Try.prog (m + 1)) 5 x) : 0 ≤ x.toI ∧ x.toI ≤ 255 := by
 unfold TyEl at h
 have : isAggB Try.prog 5 = false := by kernel_rfl
 rw [if_neg (by rw [this]; simp), kinds5] at h
 obtain ⟨k, hk, h⟩ := h
 simp only [List.cons.injEq, and_true] at hk
 subst hk
 obtain ⟨i, rfl, hl⟩ := h
 simp only [Lit.wf, Bool.and_eq_true, decide_eq_true_eq] at hl
 exact hl
theorem arg37 {ds : List D} (h : ArgOk Try.prog 6 37 ds) : ∃ nl xs, ds = [.l nl xs] ∧ (nl = true → xs = []) ∧ xs.length ≤ maxLen ∧ BytesOk xs := by
 unfold ArgOk at h
 rw [kinds37] at h
 obtain ⟨_, _, rfl, h0, h⟩ := all2_cons h
 obtain rfl := all2_nil h
 obtain ⟨nl, xs, rfl, h1, h2, h3⟩ := ty_sl (m := 5) h0
 exact ⟨nl, xs, rfl, h1, h2, fun x hx => byte_ok (h3 x hx)⟩
theorem law7 {nl : Bool} {xs : List D} (hnl : nl = true → xs = []) (hl : xs.length ≤ maxLen) (hb : BytesOk xs) : G7x0 18446744073709551616 nl xs = some true := by
 have hN : maxLen < 18446744073709551616 := by decide
 obtain ⟨r, r1, r2, r3⟩ := read_eq hN hb hl hnl
 obtain ⟨s, s1, s2, s3⟩ := salvage_eq hN hb hl hnl
 unfold G7x0 F7x0 G7x0x16 F7x0x16
 simp only [bnd_eq, r1, r2, s1, s2, Option.isSome_some, _root_.cond_true, getD_some, G28_refl hN r3, G28_refl hN s3, G39x0_eq hN hb hl, G40x0_eq hN hb hl, beq_self_eq_true, told_ok]
theorem Try.own : ownKnob Try.prog.godebug = none := by kernel_rfl
theorem Try.laidOut : laidOutB Try.prog = true := by kernel_rfl
theorem call7 (dss : List (List D)) (h : All2 (ArgOk Try.prog 6) Try.f7.params.toList dss) : CallOk Try.prog 7 (argVs Try.prog Try.f7.params.toList dss) [] ([.c (.b true)], []) := by
 have hp : Try.f7.params.toList = [37] := by kernel_rfl
 rw [hp] at h ⊢
 match dss, h with
 | [d0], ⟨h0, _⟩ =>
  obtain ⟨nl, xs, rfl, hnl, hl, hb⟩ := arg37 h0
  refine ok7x0 18446744073709551616 _ _ (A7x0 18446744073709551616 [.b nl, .l xs]) (by kernel_rfl) _ ?_
  have e : A7x0 18446744073709551616 [.b nl, .l xs] = bnd (G7x0 18446744073709551616 nl xs) fun q => [(q.isSome, ([.c (.b (q.getD default))], []))] := by kernel_rfl
  rw [e, law7 hnl hl hb]
  rfl
theorem reads_lifted (os : Os) (started : os.Started) (H : Type) (enc : TypeId × Value → H) :
  ReturnsInHanded {} Try.checked os 7 .any (Rows.recordReadsMatchSpecSpec.pre6 enc Try.prog Try.f7 Rows.recordReadsMatchSpecRow.domain false) (Rows.recordReadsMatchSpecSpec.post enc Try.prog Try.f7 false true false false) := by
 refine returnsInHanded_of_change (C := Try.checked) Try.own started (by kernel_rfl) Try.func7
  (ChangeSpec.witness6 (enc := enc) (C := Try.checked) false ⟨#[], #[.slice none 0 0], []⟩ 8 (by kernel_rfl) (by kernel_rfl) (by kernel_rfl) (by kernel_rfl)) ?_
 intro W base args ds gs before hval hW _ _
 exact law_call (m := 6) (tb := 4) Try.laidOut rfl (by kernel_rfl) (by kernel_rfl) (by kernel_rfl) (fun l hl => by
  rw [show Try.f7.params.size = 1 by kernel_rfl] at hl
  match l, hl with
  | [_], _ => rfl) call7 hval hW
theorem reads_holds : Rows.RecordReadsMatchSpecSaid :=
 OpenClaim.holds_of_wide 7 Try.f7 rfl rfl rfl rfl rfl rfl rfl ⟨rfl, rfl, rfl, rfl, rfl⟩ rfl rfl rfl rfl rfl (by kernel_rfl) Try.func7 (by kernel_rfl)
  (of_decide_eq_true (by kernel_rfl)) (by unfold Func.isWrapper; first | (rw [if_pos (by decide +kernel)]; kernel_rfl) | (rw [if_neg (by decide +kernel)]; exact ⟨rfl, rfl⟩))
  (fun os started H enc _ => reads_lifted os started H enc)
end Go.Proofs.Ytnnofignhdijiaa

