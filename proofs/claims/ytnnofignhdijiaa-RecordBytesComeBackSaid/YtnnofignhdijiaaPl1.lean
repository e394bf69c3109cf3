/- Proved: for every file that can be written, record.Read of the bytes that Write wrote is the file, and Salvage of a beginning of them gives the entries that are whole; for any other file Write answers what the reference package answers (RecordBytesComeBack returns true and leaves its arguments as they were). Conditions: none beyond those of the given statement. -/
import Derived.Test.YtnnofignhdijiaaRPp2
import Derived.KernelRfl
import Derived.Test.YtnnofignhdijiaaRows
set_option linter.all false
set_option maxRecDepth 100000
/-! Plain laws: record.Check, record.Same and their references (the numbers are those of the seat of chapter 2). -/
namespace Go.Proofs.Ytnnofignhdijiaa
open Go Go.AM
set_option maxRecDepth 100000
set_option maxHeartbeats 4000000
variable {N : Nat}
def inI (n a b : Int) : Bool := decide (a ≤ n ∧ n ≤ b)
theorem V52x0_eq (n a b : Int) : V52x0 N n a b = inI n a b := by
 unfold V52x0 F52x0 inI
 rw [Bool.eq_iff_iff]; simp
theorem V57x0_eq (n a b : Int) : V57x0 N n a b = !inI n a b := by
 unfold V57x0 F57x0 inI
 rw [Bool.eq_iff_iff]; simp <;> omega
/-! ### The first fault -/
def firstE (e : Int → Int) : Int → List D → Int
 | _, [] => 0
 | w, _ :: r => bif e w != 0 then e w else firstE e (w + 1) r
def wayE (n : Int) : Sum Int Unit := bif n != 0 then .inl n else .inr ()
theorem wayE_cons {e : Int → Int} {w : Int} {x : D} {l : List D} : wayE (firstE e w (x :: l)) = bif e w != 0 then .inl (e w) else wayE (firstE e (w + 1) l) := by
 simp only [firstE]
 cases h : e w != 0 with
 | true => simp only [_root_.cond_true, wayE, h]
 | false => rfl
section
variable {xs : List D} {w : Int}
end
theorem way_do {α : Type} (n : Int) (k0 : Int → α) (k1 : α) (z : α) : (bif inlB (some (wayE n)) then k0 (inlV (some (wayE n))) else bif (inrQ (some (wayE n))).isSome then k1 else z) = bif n != 0 then k0 n else k1 := by
 unfold wayE
 cases n != 0 <;> rfl
section
variable {name : List UInt8} {sport start : Int} {smps laps tags : List D}
end
end Go.Proofs.Ytnnofignhdijiaa

/-! Plain laws: record.Same and its reference. -/
namespace Go.Proofs.Ytnnofignhdijiaa
open Go Go.AM
set_option maxRecDepth 100000
set_option maxHeartbeats 4000000
variable {N : Nat}
def zipAll (f : D → D → Bool) : List D → List D → Bool
 | x :: r, y :: s => f x y && zipAll f r s
 | _, _ => true
theorem zip_ind {xs ys : List D} (f : D → D → Bool) {S : Int → (Int → Option (Sum Unit Unit)) → Option (Sum Unit Unit)} {L : Nat → Int → Option (Sum Unit Unit)} (hL : ∀ m a, L (m + 1) a = S a (L m)) (hlen : xs.length ≤ maxLen) (hxy : xs.length = ys.length)
  (hend : ∀ kr, S xs.length kr = some (.inr ()))
  (hstep : ∀ (w : Int) (kr : Int → Option (Sum Unit Unit)), decide (w < xs.length) = true → inB w xs.length = true → inB w ys.length = true → S w kr = bif f (xs.getD w.toNat (.i 0)) (ys.getD w.toNat (.i 0)) then kr (IntKind.wrap .i64 (w + 1)) else some (.inl ()))
  (hN : maxLen < N) : L N 0 = some (bif zipAll f xs ys then .inr () else .inl ()) := by
 refine (for_ind (.i 0 : D) hL (fun w l => some (bif zipAll f l (ys.drop w.toNat) then .inr () else .inl ())) hlen ?_ ?_ hN).trans (by simp)
 ·intro kr; rw [hend]; simp [zipAll]
 ·intro w kr h0 h1 hw hi hk
  have h2 : w < ys.length := by omega
  rw [hstep w kr (decide_eq_true h1) hi (inB_of h0 (by omega)), hw, hk, drop_at (.i 0) (xs := ys) h0 h2]
  simp only [zipAll]
  cases f (xs.getD w.toNat (.i 0)) (ys.getD w.toNat (.i 0)) <;> rfl
section
variable {xs ys : List D}
end
section
variable {n n' : List UInt8} {sp st sp' st' : Int} {s l t s' l' t' : List D}
end
end Go.Proofs.Ytnnofignhdijiaa

/-! Plain laws: definitions of files, their slots (record.checkDef, slotOf; the references' defFault, timeOf, fieldsOf, sizeOf). -/
namespace Go.Proofs.Ytnnofignhdijiaa
open Go Go.AM
set_option maxRecDepth 100000
set_option maxHeartbeats 4000000
variable {N : Nat}
theorem loop_indE {A X : Type} {S : A → (A → X) → X} {L : Nat → A → X} (hL : ∀ m a, L (m + 1) a = S a (L m)) (P : A → X → Prop) (Inv : A → Prop) (μ : A → Nat)
  (h : ∀ a kr, Inv a → (∀ a', Inv a' → μ a' < μ a → P a' (kr a')) → P a (S a kr)) : ∀ (m : Nat) (a : A), Inv a → μ a < m → P a (L m a) := by
 intro m
 induction m with
 | zero => intro a _ h; omega
 | succ m ih => intro a ha hm; rw [hL]; exact h a (L m) ha fun a' h1 h2 => ih a' h1 (by omega)
def fN (f : D) : Int := (f.cell 0).toI
def fS (f : D) : Int := (f.cell 1).toI
def fT (f : D) : Int := (f.cell 2).toI
def isT (f : D) : Bool := (fN f == 253) && (fT f == 0) && (fS f == 4)
def hasN (n : Int) (l : List D) : Bool := l.any fun f => fN f == n
def fldE (fs : List D) (w : Int) : Int :=
 bif !(inI (fN (fs.getD w.toNat (.i 0))) 0 255) || !(inI (fS (fs.getD w.toNat (.i 0))) 1 255) then 9 else bif !inI (fT (fs.getD w.toNat (.i 0))) 0 3 then 7 else
 bif decide (fT (fs.getD w.toNat (.i 0)) ≤ 1) && (fS (fs.getD w.toNat (.i 0)) != 1) && (fS (fs.getD w.toNat (.i 0)) != 2) && (fS (fs.getD w.toNat (.i 0)) != 4) then 2 else
 bif hasN (fN (fs.getD w.toNat (.i 0))) (fs.take w.toNat) then 5 else 0
def defE (g : Int) (fs : List D) : Int := bif !inI g 0 65535 then 9 else bif decide ((fs.length : Int) > 30) then 3 else firstE (fldE fs) 0 fs
theorem G146x0_eq (hN : maxLen < N) {xs : List D} {n : Int} (hs : xs.length ≤ maxLen) : ∃ i : Int, G146x0 N xs n = some i ∧ decide (i ≥ 0) = hasN n xs := by
 have h : G146x0x6 N xs xs.length n 0 = some (match xs.findIdx? fun d => fN d == n with | some j => .inl (j : Int) | none => .inr ()) := by
  unfold G146x0x6
  refine (for_ind (.i 0 : D) (S := fun w kr => S146x0x6 N xs xs.length n w kr _ _) (L := fun m w => L146x0x6 N xs xs.length n m w _ _) (fun m w => rfl) (fun w l => some (match l.findIdx? fun d => fN d == n with | some j => .inl (w + (j : Int)) | none => .inr ())) hs ?_ ?_ hN).trans (by simp)
  ·intro kr; simp [S146x0x6]
  ·intro w kr h0 h1 hw hi hk
   simp only [S146x0x6, V142x0, F142x0, decide_eq_true h1, _root_.cond_true, hi, bnd_eq, hw, hk, List.findIdx?_cons]
   show (bif (fN (xs.getD w.toNat (.i 0)) == n) then _ else _) = _
   cases fN (xs.getD w.toNat (.i 0)) == n with
   | true => simp
   | false =>
    simp only [_root_.cond_false, Bool.false_eq_true, if_false]
    cases (xs.drop (w + 1).toNat).findIdx? fun d => fN d == n with
    | none => rfl
    | some j => simp; omega
 unfold G146x0 F146x0
 rw [h]
 have hl : hasN n xs = (xs.findIdx? fun d => fN d == n).isSome := by
  rw [List.findIdx?_isSome]; rfl
 rw [hl]
 cases xs.findIdx? fun d => fN d == n with
 | none => exact ⟨-1, rfl, rfl⟩
 | some j => exact ⟨j, rfl, by simp⟩
theorem G141x0_eq (hN : maxLen < N) {xs : List D} {n : Int} (hs : xs.length ≤ maxLen) : G141x0 N xs n = some (hasN n xs) := by
 obtain ⟨i, h1, h2⟩ := G146x0_eq hN (n := n) hs
 unfold G141x0 F141x0
 rw [h1]
 simp only [bnd_eq, Option.isSome_some, _root_.cond_true, getD_some, h2]
theorem G125x0x45_eq (hN : maxLen < N) {xs : List D} {n : Int} (hs : xs.length ≤ maxLen) : G125x0x45 N xs xs.length n 0 = some (bif hasN n xs then .inl () else .inr ()) := by
 unfold G125x0x45
 refine (for_ind (.i 0 : D) (S := fun w kr => S125x0x45 N xs xs.length n w kr _ _) (L := fun m w => L125x0x45 N xs xs.length n m w _ _) (fun m w => rfl) (fun _ l => some (bif hasN n l then .inl () else .inr ())) hs ?_ ?_ hN).trans rfl
 ·intro kr; simp [S125x0x45, hasN]
 ·intro w kr h0 h1 hw hi hk
  simp only [S125x0x45, decide_eq_true h1, _root_.cond_true, hi, hw, hk, hasN, List.any_cons]
  show (bif (fN (xs.getD w.toNat (.i 0)) == n) then _ else _) = _
  cases fN (xs.getD w.toNat (.i 0)) == n <;> rfl
section
variable {fs : List D} {w : Int}
theorem take_ok (h0 : 0 ≤ w) (h1 : w < fs.length) : (decide (0 ≤ w) && decide (w ≤ (fs.length : Int))) = true := by
 rw [decide_eq_true h0, decide_eq_true (by omega)]; rfl
theorem G122x0x18_eq (hN : maxLen < N) (hl : fs.length ≤ maxLen) : G122x0x18 N fs fs.length fs 0 = some (wayE (firstE (fldE fs) 0 fs)) := by
 unfold G122x0x18
 refine (for_ind (.i 0 : D) (S := fun w kr => S122x0x18 N fs fs.length fs w kr _ _) (L := fun m w => L122x0x18 N fs fs.length fs m w _ _) (fun m w => rfl) (fun w l => some (wayE (firstE (fldE fs) w l))) hl ?_ ?_ hN).trans rfl
 ·intro kr; simp [S122x0x18, firstE, wayE]
 ·intro w kr h0 h1 hw hi hk
  have hm := G141x0_eq hN (xs := fs.take w.toNat) (n := fN (fs.getD w.toNat (.i 0))) (by simp; omega)
  simp only [S122x0x18, decide_eq_true h1, _root_.cond_true, hi, bnd_eq, hw, hk, take_ok h0 h1, List.drop_zero, V122x0x28, F122x0x28, V52x0_eq, wayE_cons]
  rw [show (((fs.getD w.toNat (.i 0)).cell 0).toI) = fN (fs.getD w.toNat (.i 0)) from rfl, hm]
  unfold fldE
  generalize hasN (fN (fs.getD w.toNat (.i 0))) (fs.take w.toNat) = hh
  generalize fs.getD w.toNat (.i 0) = f
  rw [show ((f.cell 1).toI) = fS f from rfl, show ((f.cell 2).toI) = fT f from rfl]
  simp only [Option.isSome_some, getD_some, _root_.cond_true]
  cases inI (fN f) 0 255 <;> try rfl
  cases inI (fS f) 1 255 <;> try rfl
  cases h3 : inI (fT f) 0 3 <;> try rfl
  have e : (bif fT f == 0 then true else fT f == 1) = decide (fT f ≤ 1) := by
   unfold inI at h3
   rw [Bool.eq_iff_iff]; simp at h3 ⊢
   by_cases h : fT f = 0 <;> simp [h] <;> omega
  rw [e]
  cases decide (fT f ≤ 1) <;> cases (fS f != 1) <;> cases (fS f != 2) <;> cases (fS f != 4) <;> cases hh <;> rfl
theorem G125x0x18_eq (hN : maxLen < N) (hl : fs.length ≤ maxLen) : G125x0x18 N fs fs.length fs 0 = some (wayE (firstE (fldE fs) 0 fs)) := by
 unfold G125x0x18
 refine (for_ind (.i 0 : D) (S := fun w kr => S125x0x18 N fs fs.length fs w kr _ _) (L := fun m w => L125x0x18 N fs fs.length fs m w _ _) (fun m w => rfl) (fun w l => some (wayE (firstE (fldE fs) w l))) hl ?_ ?_ hN).trans rfl
 ·intro kr; simp [S125x0x18, firstE, wayE]
 ·intro w kr h0 h1 hw hi hk
  have hm := G125x0x45_eq hN (xs := fs.take w.toNat) (n := fN (fs.getD w.toNat (.i 0))) (by simp; omega)
  simp only [S125x0x18, decide_eq_true h1, _root_.cond_true, hi, bnd_eq, hw, hk, take_ok h0 h1, List.drop_zero, V125x0x25, F125x0x25, V57x0_eq, wayE_cons]
  rw [show (((fs.getD w.toNat (.i 0)).cell 0).toI) = fN (fs.getD w.toNat (.i 0)) from rfl, hm]
  unfold fldE
  generalize hasN (fN (fs.getD w.toNat (.i 0))) (fs.take w.toNat) = hh
  generalize fs.getD w.toNat (.i 0) = f
  rw [show ((f.cell 1).toI) = fS f from rfl, show ((f.cell 2).toI) = fT f from rfl]
  cases inI (fN f) 0 255 <;> cases inI (fS f) 1 255 <;> cases inI (fT f) 0 3 <;> try rfl
  cases decide (fT f ≤ 1) <;> cases (fS f != 1) <;> cases (fS f != 2) <;> cases (fS f != 4) <;> cases hh <;> rfl
theorem G122x0_eq (hN : maxLen < N) (g : Int) (hl : fs.length ≤ maxLen) : G122x0 N g fs = some (defE g fs) := by
 unfold G122x0 F122x0 defE
 simp only [bnd_eq, V52x0_eq, G122x0x18_eq hN hl, way_do]
 cases inI g 0 65535 <;> cases decide ((fs.length : Int) > 30) <;> try rfl
 cases h : firstE (fldE fs) 0 fs != 0 <;> first | rfl | (simp only [bne_eq_false_iff_eq] at h; simp [h])
theorem G125x0_eq (hN : maxLen < N) (g : Int) (hl : fs.length ≤ maxLen) : G125x0 N g fs = some (defE g fs) := by
 unfold G125x0 F125x0 defE
 simp only [bnd_eq, V57x0_eq, G125x0x18_eq hN hl, way_do]
 cases inI g 0 65535 <;> cases decide ((fs.length : Int) > 30) <;> try rfl
 cases h : firstE (fldE fs) 0 fs != 0 <;> first | rfl | (simp only [bne_eq_false_iff_eq] at h; simp [h])
end
/-! ### What a right definition is -/
structure FldsOk (fs : List D) : Prop where
 len : fs.length ≤ 255
 size : ∀ f ∈ fs, 0 ≤ fS f ∧ fS f ≤ 255
theorem firstE_zero {e : Int → Int} : ∀ {l : List D} {w : Int}, firstE e w l = 0 → ∀ i : Nat, i < l.length → e (w + i) = 0
 | [], w, _, i, hi => by simp at hi
 | x :: r, w, h, i, hi => by
  simp only [firstE] at h
  cases he : e w != 0 with
  | true =>
   rw [he] at h
   simp only [_root_.cond_true] at h
   rw [h] at he
   simp at he
  | false =>
   rw [he] at h
   cases i with
   | zero => simpa using he
   | succ i =>
    have := firstE_zero (l := r) (w := w + 1) h i (by simpa using hi)
    rw [show w + ((i + 1 : Nat) : Int) = w + 1 + (i : Int) by omega]
    exact this
theorem defE_ok {g : Int} {fs : List D} (h : defE g fs = 0) : FldsOk fs := by
 unfold defE at h
 cases h1 : inI g 0 65535 with
 | false => rw [h1] at h; exact absurd (show (9 : Int) = 0 from h) (by decide)
 | true =>
  rw [h1] at h
  cases h2 : decide ((fs.length : Int) > 30) with
  | true => rw [h2] at h; exact absurd (show (3 : Int) = 0 from h) (by decide)
  | false =>
   rw [h2] at h
   simp only [Bool.not_true, _root_.cond_false] at h
   refine ⟨by simp at h2; omega, fun f hf => ?_⟩
   obtain ⟨i, hi, rfl⟩ := List.getElem_of_mem hf
   have := firstE_zero h i hi
   rw [Int.zero_add] at this
   unfold fldE at this
   have hg : fs.getD ((i : Int)).toNat (.i 0) = fs[i] := by
    rw [List.getD_eq_getElem?_getD, Int.toNat_natCast, List.getElem?_eq_getElem hi]; rfl
   rw [hg] at this
   cases h3 : inI (fS fs[i]) 1 255 with
   | false =>
    rw [h3] at this
    cases inI (fN fs[i]) 0 255 <;> exact absurd (show (9 : Int) = 0 from by simpa using this) (by decide)
   | true => unfold inI at h3; simp at h3; omega
/-! ### Sizes, the time's place -/
def szL : List D → Int
 | [] => 0
 | f :: r => fS f + szL r
def tmL : Int → List D → Int
 | _, [] => -1
 | a, f :: r => bif isT f then a else tmL (a + fS f) r
/-- The fields whose bytes there are. -/
def flds : Bool → List D → List D
 | _, [] => []
 | t, f :: r => bif t && isT f then flds false r else .a [.i (fN f), .i (fS f), .i (fT f)] :: flds t r
theorem szL_bound : ∀ {fs : List D}, (∀ f ∈ fs, 0 ≤ fS f ∧ fS f ≤ 255) → 0 ≤ szL fs ∧ szL fs ≤ 255 * fs.length
 | [], _ => by simp [szL]
 | f :: r, h => by
  have h1 := h f (by simp)
  have h2 := szL_bound (fs := r) fun x hx => h x (by simp [hx])
  simp only [szL, List.length_cons]
  omega
theorem tmL_bound : ∀ {fs : List D} {a : Int}, 0 ≤ a → (∀ f ∈ fs, 0 ≤ fS f ∧ fS f ≤ 255) → (tmL a fs = -1 ∨ a ≤ tmL a fs ∧ tmL a fs + 4 ≤ a + szL fs)
 | [], _, _, _ => .inl rfl
 | f :: r, a, ha, h => by
  have h1 := h f (by simp)
  simp only [tmL, szL]
  cases ht : isT f with
  | true =>
   have h2 := szL_bound (fs := r) fun x hx => h x (by simp [hx])
   have h3 : fS f = 4 := by unfold isT at ht; simp at ht; exact ht.2
   right; simp only [_root_.cond_true]; omega
  | false =>
   simp only [_root_.cond_false]
   rcases tmL_bound (fs := r) (a := a + fS f) (by omega) (fun x hx => h x (by simp [hx])) with h2 | h2
   ·exact .inl h2
   ·right; omega
theorem szL_flds_false : ∀ fs : List D, szL (flds false fs) = szL fs
 | [] => rfl
 | f :: r => by simp only [flds, Bool.false_and, _root_.cond_false, szL, szL_flds_false r]; rfl
theorem szL_flds : ∀ {fs : List D} {a : Int}, 0 ≤ a → (∀ f ∈ fs, 0 ≤ fS f ∧ fS f ≤ 255) → (tmL a fs < 0 → szL (flds true fs) = szL fs) ∧ (0 ≤ tmL a fs → szL (flds true fs) = szL fs - 4)
 | [], _, _, _ => ⟨fun _ => rfl, fun h => absurd (show (0 : Int) ≤ -1 from h) (by decide)⟩
 | f :: r, a, ha, h => by
  have h1 := h f (by simp)
  have e : fS (.a [.i (fN f), .i (fS f), .i (fT f)]) = fS f := rfl
  cases ht : isT f with
  | true =>
   have h3 : fS f = 4 := by unfold isT at ht; simp at ht; exact ht.2
   simp only [flds, tmL, szL, ht, Bool.and_self, _root_.cond_true, szL_flds_false]
   constructor <;> intro h4 <;> omega
  | false =>
   have h5 := szL_flds (fs := r) (a := a + fS f) (by omega) fun x hx => h x (by simp [hx])
   simp only [flds, tmL, szL, ht, Bool.and_false, _root_.cond_false, e]
   exact ⟨fun h4 => by rw [h5.1 h4], fun h4 => by rw [h5.2 h4]; omega⟩
section
variable {fs : List D}
theorem getD_mem {w : Int} (h0 : 0 ≤ w) (h1 : w < fs.length) : fs.getD w.toNat (.i 0) ∈ fs := by
 rw [List.getD_eq_getElem?_getD, List.getElem?_eq_getElem (by omega)]; exact List.getElem_mem _
theorem isT_eq (f : D) : (bif (bif ((f.cell 0).toI == 253) then ((f.cell 2).toI == 0) else false) then ((f.cell 1).toI == 4) else false) = isT f := by
 unfold isT fN fT fS
 cases (f.cell 0).toI == 253 <;> cases (f.cell 2).toI == 0 <;> rfl
theorem V132x0_eq (f : D) : V132x0 N (f.cell 0).toI (f.cell 1).toI (f.cell 2).toI = isT f := isT_eq f
theorem G123x0_eq (hN : maxLen < N) (h : FldsOk fs) : G123x0 N fs = some (szL fs, tmL 0 fs) := by
 have hm : maxLen = 9223372036854775807 := rfl
 have hl := h.len
 have key := loop_ind (A := Int × Int × Int) (X := Option (Int × Int)) (S := fun x kr => S123x0x9 N fs fs.length x.1 x.2.1 x.2.2 (fun a b c => kr (a, b, c)) (fun p => some p)) (L := fun m x => L123x0x9 N fs fs.length m x.1 x.2.1 x.2.2 (fun p => some p)) (fun m x => rfl)
  (fun x => some (x.2.1 + szL (fs.drop x.1.toNat), bif decide (x.2.2 < 0) then tmL x.2.1 (fs.drop x.1.toNat) else x.2.2)) (fun x => 0 ≤ x.1 ∧ x.1 ≤ fs.length ∧ 0 ≤ x.2.1 ∧ x.2.1 ≤ 255 * x.1 ∧ -1 ≤ x.2.2) (fun x => (fs.length - x.1).toNat) ?_ N (0, 0, -1) ⟨by decide, by show (0 : Int) ≤ _; omega, by decide, by decide, by decide⟩ (by simp; omega)
 ·have k2 : G123x0x9 N fs fs.length 0 0 (-1) = some (szL fs, tmL 0 fs) := by
   refine Eq.trans key ?_
   simp
  unfold G123x0 F123x0
  rw [k2]; rfl
 ·rintro ⟨w, sz, t⟩ kr ⟨h0, h1, h2, h3, h4⟩ ih
  simp only at h0 h1 h2 h3 h4 ih ⊢
  unfold S123x0x9
  by_cases hw : w < fs.length
  ·have hf := h.size _ (getD_mem h0 hw)
   rw [decide_eq_true hw, inB_of h0 hw, drop_at (.i 0) h0 hw]
   simp only [_root_.cond_true, bnd_eq, V123x0x20, F123x0x20]
   rw [isT_eq]
   have e1 : ((fs.getD w.toNat (.i 0)).cell 1).toI = fS (fs.getD w.toNat (.i 0)) := rfl
   rw [e1, wrapI (x := sz + _) (by omega) (by omega), wrapI (x := w + 1) (by omega) (by omega)]
   rw [ih (w + 1, _, _) ⟨by omega, by omega, by simp only; omega, by simp only; omega, by simp only; cases isT (fs.getD w.toNat (.i 0)) <;> cases decide (t < 0) <;> simp <;> omega⟩ (by simp only; omega)]
   simp only [szL, tmL]
   cases ht : isT (fs.getD w.toNat (.i 0)) with
   | true =>
    by_cases hneg : t < 0
    ·simp only [decide_eq_true hneg, _root_.cond_true, decide_eq_false (show ¬ sz < 0 by omega), _root_.cond_false, Option.some.injEq, Prod.mk.injEq, and_true]; omega
    ·simp only [decide_eq_false hneg, _root_.cond_true, _root_.cond_false, Option.some.injEq, Prod.mk.injEq, and_true]; omega
   | false =>
    simp only [_root_.cond_false, Option.some.injEq, Prod.mk.injEq]
    refine ⟨by omega, ?_⟩
    by_cases hneg : t < 0 <;> simp [hneg]
  ·have : w = fs.length := by omega
   subst this
   rw [decide_eq_false hw, drop_end (by omega)]
   simp only [_root_.cond_false, szL, tmL, Int.add_zero, Option.some.injEq, Prod.mk.injEq, true_and]
   by_cases ht : t < 0
   ·rw [decide_eq_true ht]; simp only [_root_.cond_true]; omega
   ·rw [decide_eq_false ht]; rfl
def tmW (n : Int) : Sum Int Unit := bif decide (n < 0) then .inr () else .inl n
theorem G79x0_eq (hN : maxLen < N) (h : FldsOk fs) : G79x0 N fs = some (bif decide (tmL 0 fs < 0) then (0, false) else (tmL 0 fs, true)) := by
 have hm : maxLen = 9223372036854775807 := rfl
 have hl := h.len
 have key := loop_ind (A := Int × Int) (X := Option (Sum Int Unit)) (S := fun x kr => S79x0x9 N fs fs.length x.1 x.2 (fun a b => kr (a, b)) (fun p => some (.inl p)) (fun p => some (.inr p))) (L := fun m x => L79x0x9 N fs fs.length m x.1 x.2 (fun p => some (.inl p)) (fun p => some (.inr p))) (fun m x => rfl)
  (fun x => some (tmW (tmL x.1 (fs.drop x.2.toNat)))) (fun x => 0 ≤ x.2 ∧ x.2 ≤ fs.length ∧ 0 ≤ x.1 ∧ x.1 ≤ 255 * x.2) (fun x => (fs.length - x.2).toNat) ?_ N (0, 0) ⟨by decide, by show (0 : Int) ≤ _; omega, by decide, by decide⟩ (by simp; omega)
 ·have k2 : G79x0x9 N fs fs.length 0 0 = some (tmW (tmL 0 fs)) := by
   refine Eq.trans key ?_
   simp
  unfold G79x0 F79x0
  rw [k2]
  unfold tmW
  cases decide (tmL 0 fs < 0) <;> rfl
 ·rintro ⟨sz, w⟩ kr ⟨h0, h1, h2, h3⟩ ih
  simp only at h0 h1 h2 h3 ih ⊢
  unfold S79x0x9
  by_cases hw : w < fs.length
  ·have hf := h.size _ (getD_mem h0 hw)
   rw [decide_eq_true hw, inB_of h0 hw, drop_at (.i 0) h0 hw]
   simp only [_root_.cond_true, bnd_eq, V132x0_eq]
   have e1 : ((fs.getD w.toNat (.i 0)).cell 1).toI = fS (fs.getD w.toNat (.i 0)) := rfl
   rw [e1, wrapI (x := sz + _) (by omega) (by omega), wrapI (x := w + 1) (by omega) (by omega)]
   simp only [tmL]
   cases ht : isT (fs.getD w.toNat (.i 0)) with
   | true => simp only [_root_.cond_true]; unfold tmW; rw [decide_eq_false (by omega)]; rfl
   | false =>
    simp only [_root_.cond_false]
    exact ih (sz + fS (fs.getD w.toNat (.i 0)), w + 1) ⟨by omega, by omega, by simp only; omega, by simp only; omega⟩ (by simp only; omega)
  ·have : w = fs.length := by omega
   subst this
   rw [decide_eq_false hw, drop_end (by omega)]
   rfl
theorem G126x0_eq (hN : maxLen < N) (h : FldsOk fs) : G126x0 N fs = some (szL fs) := by
 have hm : maxLen = 9223372036854775807 := rfl
 have hl := h.len
 have key := loop_ind (A := Int × Int) (X := Option Int) (S := fun x kr => S126x0x9 N fs fs.length x.1 x.2 (fun a b => kr (a, b)) (fun p => some p)) (L := fun m x => L126x0x9 N fs fs.length m x.1 x.2 (fun p => some p)) (fun m x => rfl)
  (fun x => some (x.1 + szL (fs.drop x.2.toNat))) (fun x => 0 ≤ x.2 ∧ x.2 ≤ fs.length ∧ 0 ≤ x.1 ∧ x.1 ≤ 255 * x.2) (fun x => (fs.length - x.2).toNat) ?_ N (0, 0) ⟨by decide, by show (0 : Int) ≤ _; omega, by decide, by decide⟩ (by simp; omega)
 ·have k2 : G126x0x9 N fs fs.length 0 0 = some (szL fs) := by
   refine Eq.trans key ?_
   simp
  unfold G126x0 F126x0
  rw [k2]; rfl
 ·rintro ⟨sz, w⟩ kr ⟨h0, h1, h2, h3⟩ ih
  simp only at h0 h1 h2 h3 ih ⊢
  unfold S126x0x9
  by_cases hw : w < fs.length
  ·have hf := h.size _ (getD_mem h0 hw)
   rw [decide_eq_true hw, inB_of h0 hw, drop_at (.i 0) h0 hw]
   simp only [_root_.cond_true, bnd_eq]
   have e1 : ((fs.getD w.toNat (.i 0)).cell 1).toI = fS (fs.getD w.toNat (.i 0)) := rfl
   rw [e1, wrapI (x := sz + _) (by omega) (by omega), wrapI (x := w + 1) (by omega) (by omega)]
   rw [ih (sz + fS (fs.getD w.toNat (.i 0)), w + 1) ⟨by omega, by omega, by simp only; omega, by simp only; omega⟩ (by simp only; omega)]
   simp only [szL, Option.some.injEq]; omega
  ·have : w = fs.length := by omega
   subst this
   rw [decide_eq_false hw, drop_end (by omega)]
   simp only [_root_.cond_false, szL, Int.add_zero]
theorem flds_ok : ∀ {fs : List D} {t : Bool}, (∀ f ∈ fs, 0 ≤ fS f ∧ fS f ≤ 255) → (flds t fs).length ≤ fs.length ∧ ∀ f ∈ flds t fs, 0 ≤ fS f ∧ fS f ≤ 255
 | [], _, _ => by simp [flds]
 | f :: r, t, h => by
  have h1 := h f (by simp)
  have h2 : ∀ t, _ := fun t => flds_ok (fs := r) (t := t) fun x hx => h x (by simp [hx])
  simp only [flds]
  cases t && isT f with
  | true => simp only [_root_.cond_true, List.length_cons]; exact ⟨by have := (h2 false).1; omega, (h2 false).2⟩
  | false =>
   simp only [_root_.cond_false, List.length_cons]
   refine ⟨by have := (h2 t).1; omega, fun x hx => ?_⟩
   rcases List.mem_cons.1 hx with rfl | hx
   ·exact h1
   ·exact (h2 t).2 x hx
theorem FldsOk.flds (h : FldsOk fs) (t : Bool) : FldsOk (flds t fs) := ⟨Nat.le_trans (flds_ok h.size).1 h.len, (flds_ok h.size).2⟩
theorem G100x0_eq (hN : maxLen < N) (h : FldsOk fs) (t : Bool) : ∃ nl, G100x0 N fs t = some (nl, flds t fs) := by
 have hm : maxLen = 9223372036854775807 := rfl
 have hl := h.len
 have key := loop_indE (A := Bool × Int × Bool × LD) (X := Option (Bool × LD)) (S := fun x kr => S100x0x12 N fs fs.length x.1 x.2.1 x.2.2.1 x.2.2.2 (fun a b c d => kr (a, b, c, d)) (fun p => some p)) (L := fun m x => L100x0x12 N fs fs.length m x.1 x.2.1 x.2.2.1 x.2.2.2 (fun p => some p)) (fun m x => rfl)
  (fun x r => ∃ nl, r = some (nl, x.2.2.2 ++ Proofs.Ytnnofignhdijiaa.flds x.1 (fs.drop x.2.1.toNat))) (fun x => 0 ≤ x.2.1 ∧ x.2.1 ≤ fs.length ∧ (x.2.2.2.length : Int) ≤ x.2.1) (fun x => (fs.length - x.2.1).toNat) ?_ N (t, 0, true, []) ⟨by show (0 : Int) ≤ 0; omega, by show (0 : Int) ≤ _; omega, by simp⟩ (by simp; omega)
 ·obtain ⟨nl, k2⟩ := key
  have k3 : G100x0x12 N fs fs.length t 0 true [] = some (nl, Proofs.Ytnnofignhdijiaa.flds t fs) := by
   refine Eq.trans k2 ?_
   simp
  refine ⟨nl, ?_⟩
  unfold G100x0 F100x0
  rw [k3]; rfl
 ·rintro ⟨t, w, b, l⟩ kr ⟨h0, h1, h2⟩ ih
  simp only at h0 h1 h2 ih ⊢
  unfold S100x0x12
  by_cases hw : w < fs.length
  ·rw [decide_eq_true hw, inB_of h0 hw, drop_at (.i 0) h0 hw]
   have r1 : decide ((l.length + 1) * 24 ≤ room) = true := decide_eq_true (by unfold room; omega)
   have r2 : decide (l.length + 1 ≤ strMax) = true := decide_eq_true (by unfold strMax; omega)
   have hv : V100x0x19 N t ((fs.getD w.toNat (.i 0)).cell 0).toI ((fs.getD w.toNat (.i 0)).cell 1).toI ((fs.getD w.toNat (.i 0)).cell 2).toI = (t && isT (fs.getD w.toNat (.i 0))) := by
    unfold V100x0x19 F100x0x19
    simp only [bnd_eq, V132x0_eq]
    cases t <;> rfl
   simp only [_root_.cond_true, bnd_eq, hv, r1, r2, Bool.and_self, wrapI (x := w + 1) (by omega) (by omega), Proofs.Ytnnofignhdijiaa.flds]
   cases t && isT (fs.getD w.toNat (.i 0)) with
   | true =>
    simp only [_root_.cond_true]
    exact ih (false, w + 1, b, l) ⟨by simp only; omega, by simp only; omega, by simp only; omega⟩ (by simp only; omega)
   | false =>
    simp only [_root_.cond_false]
    obtain ⟨nl, e⟩ := ih (t, w + 1, false, l ++ [.a [.i (fN (fs.getD w.toNat (.i 0))), .i (fS (fs.getD w.toNat (.i 0))), .i (fT (fs.getD w.toNat (.i 0)))]]) ⟨by simp only; omega, by simp only; omega, by simp; omega⟩ (by simp only; omega)
    exact ⟨nl, by rw [← List.append_cons] at e; exact e⟩
  ·have : w = fs.length := by omega
   subst this
   rw [decide_eq_false hw, drop_end (by omega)]
   exact ⟨b, by simp [Proofs.Ytnnofignhdijiaa.flds]⟩
end
end Go.Proofs.Ytnnofignhdijiaa

/-! Plain laws: the number of bytes; one entry (walk.check, walk.take; the references' entryFault, take). -/
namespace Go.Proofs.Ytnnofignhdijiaa
open Go Go.AM
set_option maxRecDepth 100000
set_option maxHeartbeats 4000000
variable {N : Nat}
theorem or_byte {n b : Nat} (hn : n < 1099511627776) (hb : b < 256) : (bitsV .or .i64 (IntKind.wrap .i64 ((n : Int) * 2 ^ 8)) (IntKind.wrap .i64 (b : Int))).getD 0 = 256 * (n : Int) + b := by
 have e1 : IntKind.wrap .i64 ((n : Int) * 2 ^ 8) = ((n * 256 : Nat) : Int) := by rw [wrapI (by omega) (by omega)]; omega
 have e2 : IntKind.wrap .i64 (b : Int) = (b : Int) := wrapI (by omega) (by omega)
 rw [e1, e2]
 have h64 : IntKind.bits .i64 = 64 := rfl
 have o : (BitVec.ofInt 64 ((n * 256 : Nat) : Int) ||| BitVec.ofInt 64 (b : Int)).toNat = n * 256 + b := by
  rw [BitVec.toNat_or, BitVec.ofInt_natCast, BitVec.ofInt_natCast, BitVec.toNat_ofNat, BitVec.toNat_ofNat, Nat.mod_eq_of_lt (by omega), Nat.mod_eq_of_lt (by omega)]
  have := Nat.shiftLeft_add_eq_or_of_lt (b := b) (i := 8) (by omega) n
  rw [Nat.shiftLeft_eq] at this
  exact this.symm
 show IntKind.wrap .i64 (((BitVec.ofInt 64 ((n * 256 : Nat) : Int) ||| BitVec.ofInt 64 (b : Int)).toNat : Nat) : Int) = _
 rw [o, wrapI (by omega) (by omega)]
 omega
def BytesOk (xs : List D) : Prop := ∀ x ∈ xs, 0 ≤ x.toI ∧ x.toI ≤ 255
def pkB (len : Int) (big : Bool) (i : Int) : Int := bif big then i else len - 1 - i
/-- The number of bytes: so many more, from place i on. -/
def numR (xs : List D) (big : Bool) : Nat → Int → Int → Int
 | 0, _, n => n
 | k + 1, i, n => numR xs big k (i + 1) (256 * n + (xs.getD (pkB xs.length big i).toNat (.i 0)).toI)
def numB (xs : List D) (big : Bool) : Int := numR xs big xs.length 0 0
theorem pow_step {n b i : Int} (h0 : 0 ≤ i) (h1 : 0 ≤ n) (h2 : n < 256 ^ i.toNat) (h3 : 0 ≤ b) (h4 : b ≤ 255) : 0 ≤ 256 * n + b ∧ 256 * n + b < 256 ^ (i + 1).toNat := by
 have e : (i + 1).toNat = i.toNat + 1 := by omega
 rw [e, Int.pow_succ]
 omega
theorem pow_le {n i : Int} (h0 : 0 ≤ i) (h1 : i ≤ 4) (h2 : n < 256 ^ i.toNat) : n < 4294967296 := by
 have : i = 0 ∨ i = 1 ∨ i = 2 ∨ i = 3 ∨ i = 4 := by omega
 rcases this with rfl | rfl | rfl | rfl | rfl <;> simp at h2 <;> omega
theorem getB {xs : List D} (h : BytesOk xs) {i : Int} (h0 : 0 ≤ i) (h1 : i < xs.length) : 0 ≤ (xs.getD i.toNat (.i 0)).toI ∧ (xs.getD i.toNat (.i 0)).toI ≤ 255 := h _ (getD_mem h0 h1)
section
variable {xs : List D}
theorem pkB_in {big : Bool} {i : Int} (h0 : 0 ≤ i) (h1 : i < xs.length) : 0 ≤ pkB xs.length big i ∧ pkB xs.length big i < xs.length := by
 unfold pkB; cases big <;> simp <;> omega
theorem numR_bound (hb : BytesOk xs) (big : Bool) : ∀ (k : Nat) (i n : Int), 0 ≤ i → i + k = xs.length → 0 ≤ n → n < 256 ^ i.toNat → 0 ≤ numR xs big k i n ∧ numR xs big k i n < 256 ^ xs.length
 | 0, i, n, h0, h1, h2, h3 => by
  have : i.toNat = xs.length := by omega
  rw [this] at h3
  exact ⟨h2, h3⟩
 | k + 1, i, n, h0, h1, h2, h3 => by
  obtain ⟨p0, p1⟩ := pkB_in (xs := xs) (big := big) h0 (by omega)
  obtain ⟨b0, b1⟩ := getB hb p0 p1
  obtain ⟨q0, q1⟩ := pow_step h0 h2 h3 b0 b1
  exact numR_bound hb big k (i + 1) _ (by omega) (by omega) q0 q1
theorem numB_bound (hb : BytesOk xs) (big : Bool) (hl : xs.length ≤ 4) : 0 ≤ numB xs big ∧ numB xs big < 4294967296 := by
 obtain ⟨h1, h2⟩ := numR_bound hb big xs.length 0 0 (by omega) (by omega) (by omega) (by simp)
 refine ⟨h1, ?_⟩
 have := pow_le (i := (xs.length : Int)) (by omega) (by omega) (n := numB xs big) (by unfold numB; simpa using h2)
 exact this
theorem G81x0_eq (hN : maxLen < N) (hb : BytesOk xs) (big : Bool) (hl : xs.length ≤ 4) : G81x0 N xs big = some (numB xs big) := by
 have hm : maxLen = 9223372036854775807 := rfl
 have key := loop_ind (A := Int × Int) (X := Option Int) (S := fun x kr => S81x0x9 N xs big xs.length x.1 x.2 (fun a b => kr (a, b)) (fun p => some p)) (L := fun m x => L81x0x9 N xs big xs.length m x.1 x.2 (fun p => some p)) (fun m x => rfl)
  (fun x => some (numR xs big (xs.length - x.2).toNat x.2 x.1)) (fun x => 0 ≤ x.2 ∧ x.2 ≤ xs.length ∧ 0 ≤ x.1 ∧ x.1 < 256 ^ x.2.toNat) (fun x => (xs.length - x.2).toNat) ?_ N (0, 0) ⟨by decide, by show (0 : Int) ≤ _; omega, by decide, by decide⟩ (by simp; omega)
 ·have k2 : G81x0x9 N xs big xs.length 0 0 = some (numB xs big) := by
   refine Eq.trans key ?_
   simp [numB]
  unfold G81x0 F81x0
  rw [k2]; rfl
 ·rintro ⟨n, i⟩ kr ⟨h0, h1, h2, h3⟩ ih
  simp only at h0 h1 h2 h3 ih ⊢
  unfold S81x0x9
  by_cases hw : i < xs.length
  ·obtain ⟨p0, p1⟩ := pkB_in (xs := xs) (big := big) h0 hw
   obtain ⟨b0, b1⟩ := getB hb p0 p1
   obtain ⟨q0, q1⟩ := pow_step h0 h2 h3 b0 b1
   have hn := pow_le h0 (by omega) h3
   have hv : V81x0x23 N i (IntKind.wrap .i64 ((IntKind.wrap .i64 ((xs.length : Int) - 1)) - i)) big = pkB xs.length big i := by
    rw [wrapI (x := (xs.length : Int) - 1) (by omega) (by omega), wrapI (x := (xs.length : Int) - 1 - i) (by omega) (by omega)]
    unfold V81x0x23 F81x0x23 pkB
    cases big <;> rfl
   have ho := or_byte (n := n.toNat) (b := (xs.getD (pkB xs.length big i).toNat (.i 0)).toI.toNat) (by omega) (by omega)
   rw [Int.toNat_of_nonneg h2, Int.toNat_of_nonneg b0] at ho
   rw [decide_eq_true hw]
   simp only [_root_.cond_true, bnd_eq, hv, inB_of p0 p1, ho, wrapI (x := i + 1) (by omega) (by omega)]
   rw [ih (_, i + 1) ⟨by simp only; omega, by simp only; omega, q0, q1⟩ (by simp only; omega)]
   have e : (xs.length - i).toNat = (xs.length - (i + 1)).toNat + 1 := by omega
   rw [e]
   rfl
  ·have : i = xs.length := by omega
   subst this
   rw [decide_eq_false hw]
   simp [numR]
theorem G83x0_eq (hN : maxLen < N) (hb : BytesOk xs) (big : Bool) (hl : xs.length ≤ 4) : G83x0 N xs big = some (numB xs big) := by
 have hm : maxLen = 9223372036854775807 := rfl
 have key := loop_ind (A := Int × Int) (X := Option Int) (S := fun x kr => S83x0x9 N xs big xs.length x.1 x.2 (fun a b => kr (a, b)) (fun p => some p)) (L := fun m x => L83x0x9 N xs big xs.length m x.1 x.2 (fun p => some p)) (fun m x => rfl)
  (fun x => some (numR xs big (xs.length - x.2).toNat x.2 x.1)) (fun x => 0 ≤ x.2 ∧ x.2 ≤ xs.length ∧ 0 ≤ x.1 ∧ x.1 < 256 ^ x.2.toNat) (fun x => (xs.length - x.2).toNat) ?_ N (0, 0) ⟨by decide, by show (0 : Int) ≤ _; omega, by decide, by decide⟩ (by simp; omega)
 ·have k2 : G83x0x9 N xs big xs.length 0 0 = some (numB xs big) := by
   refine Eq.trans key ?_
   simp [numB]
  unfold G83x0 F83x0
  rw [k2]; rfl
 ·rintro ⟨n, i⟩ kr ⟨h0, h1, h2, h3⟩ ih
  simp only at h0 h1 h2 h3 ih ⊢
  unfold S83x0x9
  by_cases hw : i < xs.length
  ·obtain ⟨p0, p1⟩ := pkB_in (xs := xs) (big := big) h0 hw
   obtain ⟨b0, b1⟩ := getB hb p0 p1
   obtain ⟨q0, q1⟩ := pow_step h0 h2 h3 b0 b1
   have hn := pow_le h0 (by omega) h3
   have hv : V83x0x23 N xs i i (!big) = pkB xs.length big i := by
    unfold V83x0x23 F83x0x23 pkB
    rw [wrapI (x := (xs.length : Int) - 1) (by omega) (by omega), wrapI (x := (xs.length : Int) - 1 - i) (by omega) (by omega)]
    cases big <;> rfl
   have ho : IntKind.wrap .i64 ((IntKind.wrap .i64 (256 * n)) + (IntKind.wrap .i64 (xs.getD (pkB xs.length big i).toNat (.i 0)).toI)) = 256 * n + (xs.getD (pkB xs.length big i).toNat (.i 0)).toI := by
    rw [wrapI (x := 256 * n) (by omega) (by omega), wrapI (x := (xs.getD (pkB xs.length big i).toNat (.i 0)).toI) (by omega) (by omega), wrapI (by omega) (by omega)]
   rw [decide_eq_true hw]
   simp only [_root_.cond_true, bnd_eq, hv, inB_of p0 p1, ho, wrapI (x := i + 1) (by omega) (by omega)]
   rw [ih (_, i + 1) ⟨by simp only; omega, by simp only; omega, q0, q1⟩ (by simp only; omega)]
   have e : (xs.length - i).toNat = (xs.length - (i + 1)).toNat + 1 := by omega
   rw [e]
   rfl
  ·have : i = xs.length := by omega
   subst this
   rw [decide_eq_false hw]
   simp [numR]
end
theorem missing4 : G124x0 N 4 false = some 4294967295 := by
 unfold G124x0 F124x0
 have e1 : IntKind.wrap .i64 (8 * 4) = 32 := by decide
 rw [e1]
 have e2 : IntKind.wrap .i64 (1 * 2 ^ (min (32 : Int).toNat 64)) = 4294967296 := by decide
 have e3 : IntKind.wrap .i64 ((4294967296 : Int) - 1) = 4294967295 := by decide
 simp only [_root_.cond_false, bnd_eq, e2, e3]
 rfl
/-! ### One entry -/
/-- The slots as the program and the reference keep them; k: how many entries came. -/
structure Slots (p s : D) : Prop where
 known : ∀ j : Nat, j < 16 → (p.cell (0 + j * 6)).toB = (s.cell (0 + j * 1)).toB
 defs : ∀ j : Nat, j < 16 → (p.cell (0 + j * 6)).toB = true → FldsOk (p.cell (3 + j * 6)).items ∧ (p.cell (1 + j * 6)).toB = (s.cell (16 + j * 3)).toB ∧ (p.cell (2 + j * 6)).toI = (s.cell (17 + j * 3)).toI ∧
  (p.cell (3 + j * 6)).items = (s.cell (18 + j * 3)).items ∧ (p.cell (4 + j * 6)).toI = szL (p.cell (3 + j * 6)).items ∧ (p.cell (5 + j * 6)).toI = tmL 0 (p.cell (3 + j * 6)).items
structure Sim (p s : D) (k : Int) : Prop extends Slots p s where
 last : (p.cell 96).toI = (s.cell 64).toI
 lo : -1 ≤ (p.cell 96).toI
 hi : (p.cell 96).toI ≤ 4294967295 + 32 * k
/-- An entry's lengths and bytes are possible. -/
structure EntL (ds data : List D) : Prop where
 d : ds.length ≤ maxLen
 b : data.length ≤ maxLen
 f : ∀ x ∈ ds, (x.cell 2).items.length ≤ maxLen
 y : BytesOk data
def entE (kind slot off : Int) (ds data : List D) (known : Bool) (size time last : Int) : Int :=
 bif !inI kind 1 3 then 7 else bif !inI slot 0 (bif kind == 3 then 3 else 15) || !inI off 0 (bif kind == 3 then 31 else 0) then 9 else
 bif kind == 1 then (bif ((ds.length : Int) != 1) || decide ((data.length : Int) > 0) then 2 else defE ((ds.getD 0 (.i 0)).cell 1).toI ((ds.getD 0 (.i 0)).cell 2).items) else
 bif (ds.length : Int) != 0 then 2 else bif !known || ((kind == 3) && (decide (time < 0) || decide (last < 0))) then 11 else bif (data.length : Int) != (bif kind == 3 then size - 4 else size) then 2 else 0
section
variable {kind slot off : Int} {ds data : List D} {p s : D} {k : Int}
theorem slot_in (h : inI slot 0 (bif kind == 3 then 3 else 15) = true) : inB slot 16 = true ∧ slot.toNat < 16 := by
 unfold inI at h
 cases hk : kind == 3 <;> rw [hk] at h <;> simp at h <;> exact ⟨inB_of (by omega) (by omega), by omega⟩
theorem G71x0_eq (hN : maxLen < N) (hs : Sim p s k) (he : EntL ds data) : G71x0 N kind slot off ds data p = some (entE kind slot off ds data (p.cell (0 + slot.toNat * 6)).toB (p.cell (4 + slot.toNat * 6)).toI (p.cell (5 + slot.toNat * 6)).toI (p.cell 96).toI) := by
 have hm : maxLen = 9223372036854775807 := rfl
 unfold G71x0 F71x0 entE V71x0x14 F71x0x14 V71x0x20 F71x0x20 V71x0x28 F71x0x28 V71x0x62 F71x0x62
 simp only [bnd_eq, V52x0_eq]
 cases h1 : inI kind 1 3 with
 | false => rfl
 | true =>
 have e14 : (bif kind == 3 then ((3 : Int), (31 : Int)) else (15, 0)) = ((bif kind == 3 then 3 else 15), (bif kind == 3 then 31 else 0)) := by cases kind == 3 <;> rfl
 rw [e14]
 simp only [Bool.not_true, _root_.cond_false]
 cases h2 : inI slot 0 (bif kind == 3 then 3 else 15) with
 | false => rfl
 | true =>
 obtain ⟨i1, i2⟩ := slot_in h2
 cases h3 : inI off 0 (bif kind == 3 then 31 else 0) with
 | false => rfl
 | true =>
 simp only [Bool.not_true, _root_.cond_false, Bool.or_self]
 by_cases hk : kind = 1
 ·subst hk
  simp only [beq_self_eq_true, _root_.cond_true]
  cases h4 : ((ds.length : Int) != 1) with
  | true => rfl
  | false =>
   have hl : ds.length = 1 := by simp at h4; omega
   cases decide ((data.length : Int) > 0) with
   | true => rfl
   | false =>
    have hmem : ds.getD 0 (.i 0) ∈ ds := getD_mem (w := 0) (by omega) (by omega)
    simp only [_root_.cond_false, Bool.or_self]
    rw [inB_of (by omega) (by omega), G122x0_eq hN _ (he.f _ hmem)]
    rfl
 ·have hk1 : (kind == 1) = false := by simpa using hk
  rw [hk1]
  simp only [_root_.cond_false]
  cases h4 : ((ds.length : Int) != 0) with
  | true => rfl
  | false =>
   simp only [_root_.cond_false, i1, _root_.cond_true]
   cases hkn : (p.cell (0 + slot.toNat * 6)).toB with
   | false => rfl
   | true =>
    obtain ⟨d1, _, _, _, d5, d6⟩ := hs.defs _ i2 hkn
    have hb := szL_bound d1.size
    have hl := d1.len
    cases hk3 : kind == 3 with
    | false =>
     simp only [Bool.not_true, _root_.cond_false, Bool.false_and, Bool.or_self]
     cases ((data.length : Int) != (p.cell (4 + slot.toNat * 6)).toI) <;> rfl
    | true =>
     simp only [Bool.not_true, _root_.cond_false, _root_.cond_true, Bool.true_and, Bool.false_or]
     cases decide ((p.cell (5 + slot.toNat * 6)).toI < 0) with
     | true => rfl
     | false =>
      cases decide ((p.cell 96).toI < 0) with
      | true => rfl
      | false =>
       simp only [_root_.cond_false, Bool.or_self]
       rw [wrapI (by omega) (by omega)]
       cases ((data.length : Int) != (p.cell (4 + slot.toNat * 6)).toI - 4) <;> rfl
theorem G73x0_eq (hN : maxLen < N) (hs : Sim p s k) (he : EntL ds data) : G73x0 N kind slot off ds data s = some (entE kind slot off ds data (p.cell (0 + slot.toNat * 6)).toB (p.cell (4 + slot.toNat * 6)).toI (p.cell (5 + slot.toNat * 6)).toI (p.cell 96).toI) := by
 have hm : maxLen = 9223372036854775807 := rfl
 unfold G73x0 F73x0 entE V73x0x17 F73x0x17 V73x0x19 F73x0x19
 simp only [bnd_eq, V57x0_eq]
 cases h1 : inI kind 1 3 with
 | false => rfl
 | true =>
 have e14 : (bif kind == 3 then ((3 : Int), (31 : Int)) else (15, 0)) = ((bif kind == 3 then 3 else 15), (bif kind == 3 then 31 else 0)) := by cases kind == 3 <;> rfl
 rw [e14]
 simp only [Bool.not_true, _root_.cond_false]
 cases h2 : inI slot 0 (bif kind == 3 then 3 else 15) with
 | false => rfl
 | true =>
 obtain ⟨i1, i2⟩ := slot_in h2
 cases h3 : inI off 0 (bif kind == 3 then 31 else 0) with
 | false => rfl
 | true =>
 simp only [Bool.not_true, _root_.cond_false, Bool.or_self]
 by_cases hk : kind = 1
 ·subst hk
  simp only [beq_self_eq_true, _root_.cond_true]
  cases h4 : ((ds.length : Int) != 1) with
  | true => rfl
  | false =>
   have hl : ds.length = 1 := by simp at h4; omega
   cases decide ((data.length : Int) > 0) with
   | true => rfl
   | false =>
    have hmem : ds.getD 0 (.i 0) ∈ ds := getD_mem (w := 0) (by omega) (by omega)
    simp only [_root_.cond_false, Bool.or_self]
    rw [inB_of (by omega) (by omega), G125x0_eq hN _ (he.f _ hmem)]
    rfl
 ·have hk1 : (kind == 1) = false := by simpa using hk
  have e0 : decide ((ds.length : Int) > 0) = ((ds.length : Int) != 0) := by rw [Bool.eq_iff_iff]; simp only [decide_eq_true_eq, bne_iff_ne]; omega
  rw [hk1, e0]
  simp only [_root_.cond_false]
  cases h4 : ((ds.length : Int) != 0) with
  | true => rfl
  | false =>
   simp only [_root_.cond_false, i1, _root_.cond_true, ← hs.known _ i2]
   cases hkn : (p.cell (0 + slot.toNat * 6)).toB with
   | false => rfl
   | true =>
    obtain ⟨d1, _, _, d4, d5, d6⟩ := hs.defs _ i2 hkn
    rw [← d4, ← hs.last, d5, d6, G79x0_eq hN d1]
    obtain ⟨nl, hf⟩ := G100x0_eq hN d1 (kind == 3)
    rw [hf]
    simp only [Option.isSome_some, getD_some, _root_.cond_true, G126x0_eq hN (d1.flds _)]
    have z := szL_flds (a := 0) (by omega) d1.size
    cases hk3 : kind == 3 with
    | false =>
     simp only [Bool.not_true, _root_.cond_false, Bool.false_and, Bool.or_self, szL_flds_false]
     cases ((data.length : Int) != szL (p.cell (3 + slot.toNat * 6)).items) <;> rfl
    | true =>
     by_cases ht : tmL 0 (p.cell (3 + slot.toNat * 6)).items < 0
     ·simp only [decide_eq_true ht, _root_.cond_true]; rfl
     ·simp only [decide_eq_false ht, _root_.cond_false, _root_.cond_true, Bool.not_true, Bool.true_and, Bool.false_or, z.2 (by omega)]
      cases decide ((p.cell 96).toI < 0) with
      | true => rfl
      | false =>
       simp only [_root_.cond_false]
       cases ((data.length : Int) != szL (p.cell (3 + slot.toNat * 6)).items - 4) <;> rfl
end
end Go.Proofs.Ytnnofignhdijiaa

/-! Plain laws: an entry is taken (walk.take and the reference's take do the same). -/
namespace Go.Proofs.Ytnnofignhdijiaa
open Go Go.AM
set_option maxRecDepth 100000
set_option maxHeartbeats 4000000
variable {N : Nat}
structure EntOk (kind slot off : Int) (ds data : List D) (known : Bool) (size time last : Int) : Prop where
 k : 1 ≤ kind ∧ kind ≤ 3
 s : inB slot 16 = true ∧ slot.toNat < 16
 d : kind = 1 → ds.length = 1 ∧ defE ((ds.getD 0 (.i 0)).cell 1).toI ((ds.getD 0 (.i 0)).cell 2).items = 0
 n : kind ≠ 1 → known = true ∧ ds.length = 0
 h : kind = 3 → 0 ≤ time ∧ 0 ≤ last ∧ 0 ≤ off ∧ off ≤ 31 ∧ (data.length : Int) = size - 4
 t : kind = 2 → (data.length : Int) = size
section
variable {kind slot off : Int} {ds data : List D} {p s : D} {k : Int}
theorem entE_ok {known : Bool} {size time last : Int} (h : entE kind slot off ds data known size time last = 0) : EntOk kind slot off ds data known size time last := by
 unfold entE at h
 cases h1 : inI kind 1 3 with
 | false => rw [h1] at h; exact absurd (show (7 : Int) = 0 from h) (by decide)
 | true =>
 cases h2 : inI slot 0 (bif kind == 3 then 3 else 15) with
 | false => rw [h1, h2] at h; exact absurd (show (9 : Int) = 0 from h) (by decide)
 | true =>
 cases h3 : inI off 0 (bif kind == 3 then 31 else 0) with
 | false => rw [h1, h2, h3] at h; exact absurd (show (9 : Int) = 0 from h) (by decide)
 | true =>
 rw [h1, h2, h3] at h
 simp only [Bool.not_true, _root_.cond_false, Bool.or_self] at h
 have hkr : 1 ≤ kind ∧ kind ≤ 3 := by unfold inI at h1; simpa using h1
 by_cases hk : kind = 1
 ·subst hk
  simp only [beq_self_eq_true, _root_.cond_true] at h
  cases h4 : ((ds.length : Int) != 1) || decide ((data.length : Int) > 0) with
  | true => rw [h4] at h; exact absurd (show (2 : Int) = 0 from h) (by decide)
  | false =>
   rw [h4] at h
   simp only [Bool.or_eq_false_iff, bne_eq_false_iff_eq] at h4
   exact ⟨hkr, slot_in h2, fun _ => ⟨by omega, h⟩, fun hn => absurd rfl hn, fun h => by omega, fun h => by omega⟩
 ·have hk1 : (kind == 1) = false := by simpa using hk
  rw [hk1] at h
  simp only [_root_.cond_false] at h
  cases h4 : ((ds.length : Int) != 0) with
  | true => rw [h4] at h; exact absurd (show (2 : Int) = 0 from h) (by decide)
  | false =>
  rw [h4] at h
  simp only [_root_.cond_false] at h
  cases h5 : !known || ((kind == 3) && (decide (time < 0) || decide (last < 0))) with
  | true => rw [h5] at h; exact absurd (show (11 : Int) = 0 from h) (by decide)
  | false =>
  rw [h5] at h
  simp only [_root_.cond_false] at h
  cases h6 : ((data.length : Int) != (bif kind == 3 then size - 4 else size)) with
  | true => rw [h6] at h; exact absurd (show (2 : Int) = 0 from h) (by decide)
  | false =>
  simp only [bne_eq_false_iff_eq] at h4 h6
  simp only [Bool.or_eq_false_iff, Bool.not_eq_false'] at h5
  refine ⟨hkr, slot_in h2, fun h => absurd h hk, fun _ => ⟨h5.1, by omega⟩, fun h3' => ?_, fun h2' => ?_⟩
  ·subst h3'
   simp at h3 h5 h6
   unfold inI at h3
   simp at h3
   omega
  ·subst h2'
   simpa using h6
theorem put6 {a : Nat} {x0 x1 x2 x3 x4 x5 : D} (j : Nat) : let q := (((((p.put (0 + a * 6) x0).put (1 + a * 6) x1).put (2 + a * 6) x2).put (3 + a * 6) x3).put (4 + a * 6) x4).put (5 + a * 6) x5
  q.cell (0 + j * 6) = (if j = a then x0 else p.cell (0 + j * 6)) ∧ q.cell (1 + j * 6) = (if j = a then x1 else p.cell (1 + j * 6)) ∧ q.cell (2 + j * 6) = (if j = a then x2 else p.cell (2 + j * 6)) ∧
  q.cell (3 + j * 6) = (if j = a then x3 else p.cell (3 + j * 6)) ∧ q.cell (4 + j * 6) = (if j = a then x4 else p.cell (4 + j * 6)) ∧ q.cell (5 + j * 6) = (if j = a then x5 else p.cell (5 + j * 6)) := by
 simp only [cell_put]
 by_cases h : j = a
 ·subst h
  simp
 ·simp only [if_neg h]
  refine ⟨?_, ?_, ?_, ?_, ?_, ?_⟩ <;> rw [if_neg (by omega), if_neg (by omega), if_neg (by omega), if_neg (by omega), if_neg (by omega), if_neg (by omega)]
theorem put6_last {a : Nat} {x0 x1 x2 x3 x4 x5 : D} (ha : a < 16) : ((((((p.put (0 + a * 6) x0).put (1 + a * 6) x1).put (2 + a * 6) x2).put (3 + a * 6) x3).put (4 + a * 6) x4).put (5 + a * 6) x5).cell 96 = p.cell 96 := by
 simp only [cell_put]
 rw [if_neg (by omega), if_neg (by omega), if_neg (by omega), if_neg (by omega), if_neg (by omega), if_neg (by omega)]
theorem put4 {a : Nat} {x0 x1 x2 x3 : D} (ha : a < 16) (j : Nat) (hj : j < 16) : let q := (((s.put (0 + a * 1) x0).put (16 + a * 3) x1).put (17 + a * 3) x2).put (18 + a * 3) x3
  q.cell (0 + j * 1) = (if j = a then x0 else s.cell (0 + j * 1)) ∧ q.cell (16 + j * 3) = (if j = a then x1 else s.cell (16 + j * 3)) ∧ q.cell (17 + j * 3) = (if j = a then x2 else s.cell (17 + j * 3)) ∧
  q.cell (18 + j * 3) = (if j = a then x3 else s.cell (18 + j * 3)) ∧ q.cell 64 = s.cell 64 := by
 simp only [cell_put]
 refine ⟨?_, ?_, ?_, ?_, ?_⟩
 ·rw [if_neg (by omega), if_neg (by omega), if_neg (by omega)]
  by_cases h : j = a
  ·rw [if_pos (by omega), if_pos h]
  ·rw [if_neg (by omega), if_neg h]
 ·rw [if_neg (by omega), if_neg (by omega)]
  by_cases h : j = a
  ·rw [if_pos (by omega), if_pos h]
  ·rw [if_neg (by omega), if_neg (by omega), if_neg h]
 ·rw [if_neg (by omega)]
  by_cases h : j = a
  ·rw [if_pos (by omega), if_pos h]
  ·rw [if_neg (by omega), if_neg (by omega), if_neg (by omega), if_neg h]
 ·by_cases h : j = a
  ·rw [if_pos (by omega), if_pos h]
  ·rw [if_neg (by omega), if_neg (by omega), if_neg (by omega), if_neg (by omega), if_neg h]
 ·rw [if_neg (by omega), if_neg (by omega), if_neg (by omega), if_neg (by omega)]
/-- A slot gets a definition. -/
theorem slots_put (hs : Slots p s) {a : Nat} (i2 : a < 16) {arch : Bool} {g : Int} {nl nl2 : Bool} {fs : List D} (hf : FldsOk fs) :
  Slots ((((((p.put (0 + a * 6) (.b true)).put (1 + a * 6) (.b arch)).put (2 + a * 6) (.i g)).put (3 + a * 6) (.l nl fs)).put (4 + a * 6) (.i (szL fs))).put (5 + a * 6) (.i (tmL 0 fs)))
   ((((s.put (0 + a * 1) (.b true)).put (16 + a * 3) (.b arch)).put (17 + a * 3) (.i g)).put (18 + a * 3) (.l nl2 fs)) := by
 refine ⟨fun j hj => ?_, fun j hj hkn => ?_⟩
 ·rw [(put6 j).1, (put4 i2 j hj).1]
  by_cases h : j = a
  ·rw [if_pos h, if_pos h]
  ·rw [if_neg h, if_neg h]; exact hs.known j hj
 ·obtain ⟨a0, a1, a2, a3, a4, a5⟩ := put6 (p := p) (a := a) (x0 := .b true) (x1 := .b arch) (x2 := .i g) (x3 := .l nl fs) (x4 := .i (szL fs)) (x5 := .i (tmL 0 fs)) j
  obtain ⟨b0, b1, b2, b3, _⟩ := put4 (s := s) (x0 := .b true) (x1 := .b arch) (x2 := .i g) (x3 := .l nl2 fs) i2 j hj
  rw [a0] at hkn
  rw [a1, a2, a3, a4, a5, b1, b2, b3]
  by_cases h : j = a
  ·simp only [if_pos h]
   refine ⟨hf, ?_, ?_, ?_, ?_, ?_⟩ <;> first | trivial | rfl
  ·simp only [if_neg h] at hkn ⊢
   exact hs.defs j hj hkn
theorem Slots.last (h : Slots p s) {x : D} : Slots p (s.put 64 x) := by
 have c2 : ∀ j : Nat, j < 16 → (s.put 64 x).cell (0 + j * 1) = s.cell (0 + j * 1) ∧ (s.put 64 x).cell (16 + j * 3) = s.cell (16 + j * 3) ∧ (s.put 64 x).cell (17 + j * 3) = s.cell (17 + j * 3) ∧ (s.put 64 x).cell (18 + j * 3) = s.cell (18 + j * 3) := fun j hj => by
  refine ⟨?_, ?_, ?_, ?_⟩ <;> rw [cell_put, if_neg (by omega)]
 refine ⟨fun j hj => ?_, fun j hj hk => ?_⟩
 ·rw [(c2 j hj).1]; exact h.known j hj
 ·rw [(c2 j hj).2.1, (c2 j hj).2.2.1, (c2 j hj).2.2.2]
  exact h.defs j hj hk
theorem Sim.more (h : Sim p s k) : Sim p s (k + 1) := ⟨h.toSlots, h.last, h.lo, by have := h.hi; omega⟩
theorem slice_ok {t : Int} (h0 : 0 ≤ t) (h1 : t + 4 ≤ data.length) (hl : data.length ≤ maxLen) (hb : BytesOk data) : IntKind.wrap .i64 (t + 4) = t + 4 ∧ ((data.take (t + 4).toNat).drop t.toNat).length = 4 ∧ BytesOk ((data.take (t + 4).toNat).drop t.toNat) := by
 have hm : maxLen = 9223372036854775807 := rfl
 exact ⟨wrapI (by omega) (by omega), by simp; omega, fun x hx => hb x (List.mem_of_mem_take (List.mem_of_mem_drop hx))⟩
end
end Go.Proofs.Ytnnofignhdijiaa

/-! Plain laws: CheckFile and Times of the program and of the reference are the same. -/
namespace Go.Proofs.Ytnnofignhdijiaa
open Go Go.AM
set_option maxRecDepth 100000
set_option maxHeartbeats 4000000
variable {N : Nat}
/-- An entry's lengths and bytes are possible. -/
def EntD (x : D) : Prop := EntL (x.cell 3).items (x.cell 4).items
/-- The reference's state at the beginning. -/
def zeroS : D := .a (List.replicate 16 (.b false) ++ (List.replicate 16 [D.b false, D.i 0, D.l true []]).flatten ++ [.i (-1)])
theorem zero_slots (p : D) (hp : (List.range 16).all (fun j => !(p.cell (0 + j * 6)).toB && !(zeroS.cell (0 + j * 1)).toB) = true) : Slots p zeroS := by
 have h : ∀ j : Nat, j < 16 → (p.cell (0 + j * 6)).toB = false ∧ (zeroS.cell (0 + j * 1)).toB = false := fun j hj => by
  have := List.all_eq_true.1 hp j (List.mem_range.2 hj)
  simpa using this
 exact ⟨fun j hj => by rw [(h j hj).1, (h j hj).2], fun j hj hk => by rw [(h j hj).1] at hk; exact absurd hk (by decide)⟩
section
variable {es : List D}
end
end Go.Proofs.Ytnnofignhdijiaa

/-! Plain laws: Times. -/
namespace Go.Proofs.Ytnnofignhdijiaa
open Go Go.AM
set_option maxRecDepth 100000
set_option maxHeartbeats 4000000
set_option linter.unusedVariables false
variable {N : Nat}
section
variable {es : List D}
end
end Go.Proofs.Ytnnofignhdijiaa

/-! Plain laws: the sum; a piece of bytes; a definition's fields. -/
namespace Go.Proofs.Ytnnofignhdijiaa
open Go Go.AM
set_option maxRecDepth 100000
set_option maxHeartbeats 4000000
set_option linter.unusedVariables false
abbrev TyA : Type := Ty0
variable {N : Nat}
/-! ### The sum -/
def sumL : Int → List D → Int
 | a, [] => a
 | a, x :: r => sumL ((31 * a + x.toI) % 4294967296) r
section
variable {bs : List D}
theorem sumL_bound : ∀ {bs : List D} {a : Int}, 0 ≤ a → a < 4294967296 → 0 ≤ sumL a bs ∧ sumL a bs < 4294967296
 | [], _, h0, h1 => ⟨h0, h1⟩
 | x :: r, a, h0, h1 => sumL_bound (bs := r) (by omega) (by omega)
theorem G39x0_eq (hN : maxLen < N) (hb : BytesOk bs) (hl : bs.length ≤ maxLen) : G39x0 N bs = some (sumL 1 bs) := by
 have hm : maxLen = 9223372036854775807 := rfl
 have key := loop_ind (A := Int × Int) (X := Option Int) (S := fun x kr => S39x0x9 N bs bs.length x.1 x.2 (fun a b => kr (a, b)) (fun p => some p)) (L := fun m x => L39x0x9 N bs bs.length m x.1 x.2 (fun p => some p)) (fun m x => rfl)
  (fun x => some (sumL x.1 (bs.drop x.2.toNat))) (fun x => 0 ≤ x.2 ∧ x.2 ≤ bs.length ∧ 0 ≤ x.1 ∧ x.1 < 4294967296) (fun x => (bs.length - x.2).toNat) ?_ N (1, 0) ⟨by decide, by show (0 : Int) ≤ _; omega, by decide, by decide⟩ (by simp; omega)
 ·have k2 : G39x0x9 N bs bs.length 1 0 = some (sumL 1 bs) := by
   refine Eq.trans key ?_
   simp
  have hs := sumL_bound (bs := bs) (a := 1) (by decide) (by decide)
  unfold G39x0 F39x0
  simp only [bnd_eq]
  rw [k2]
  simp only [Option.isSome_some, _root_.cond_true, getD_some, wrapI (x := sumL 1 bs) (by omega) (by omega)]
 ·rintro ⟨a, i⟩ kr ⟨h0, h1, h2, h3⟩ ih
  simp only at h0 h1 h2 h3 ih ⊢
  unfold S39x0x9
  by_cases hw : i < bs.length
  ·have hx := getB hb h0 hw
   rw [decide_eq_true hw, inB_of h0 hw, drop_at (.i 0) h0 hw]
   have e : IntKind.wrap .u32 ((IntKind.wrap .u32 (31 * a)) + (IntKind.wrap .u32 (bs.getD i.toNat (.i 0)).toI)) = (31 * a + (bs.getD i.toNat (.i 0)).toI) % 4294967296 := by
    simp only [IntKind.wrap_u32]
    omega
   simp only [_root_.cond_true, bnd_eq, e, wrapI (x := i + 1) (by omega) (by omega), sumL]
   exact ih (_, i + 1) ⟨by simp only; omega, by simp only; omega, by simp only; omega, by simp only; omega⟩ (by simp only; omega)
  ·have : i = bs.length := by omega
   subst this
   rw [decide_eq_false hw, drop_end (by omega)]
   rfl
theorem G40x0_eq (hN : maxLen < N) (hb : BytesOk bs) (hl : bs.length ≤ maxLen) : G40x0 N bs = some (sumL 1 bs) := by
 have hm : maxLen = 9223372036854775807 := rfl
 have key := loop_ind (A := Int × Int) (X := Option Int) (S := fun x kr => S40x0x9 N bs bs.length x.1 x.2 (fun a b => kr (a, b)) (fun p => some p)) (L := fun m x => L40x0x9 N bs bs.length m x.1 x.2 (fun p => some p)) (fun m x => rfl)
  (fun x => some (sumL x.1 (bs.drop x.2.toNat))) (fun x => 0 ≤ x.2 ∧ x.2 ≤ bs.length ∧ 0 ≤ x.1 ∧ x.1 < 4294967296) (fun x => (bs.length - x.2).toNat) ?_ N (1, 0) ⟨by decide, by show (0 : Int) ≤ _; omega, by decide, by decide⟩ (by simp; omega)
 ·have k2 : G40x0x9 N bs bs.length 1 0 = some (sumL 1 bs) := by
   refine Eq.trans key ?_
   simp
  unfold G40x0 F40x0
  rw [k2]; rfl
 ·rintro ⟨a, i⟩ kr ⟨h0, h1, h2, h3⟩ ih
  simp only at h0 h1 h2 h3 ih ⊢
  unfold S40x0x9
  by_cases hw : i < bs.length
  ·have hx := getB hb h0 hw
   rw [decide_eq_true hw, inB_of h0 hw, drop_at (.i 0) h0 hw]
   have e : (IntKind.wrap .i64 ((IntKind.wrap .i64 (31 * a)) + (IntKind.wrap .i64 (bs.getD i.toNat (.i 0)).toI))).tmod 4294967296 = (31 * a + (bs.getD i.toNat (.i 0)).toI) % 4294967296 := by
    rw [wrapI (x := 31 * a) (by omega) (by omega), wrapI (x := (bs.getD i.toNat (.i 0)).toI) (by omega) (by omega), wrapI (by omega) (by omega)]
    exact Int.tmod_eq_emod_of_nonneg (by omega)
   simp only [_root_.cond_true, bnd_eq, e, wrapI (x := i + 1) (by omega) (by omega), sumL]
   exact ih (_, i + 1) ⟨by simp only; omega, by simp only; omega, by simp only; omega, by simp only; omega⟩ (by simp only; omega)
  ·have : i = bs.length := by omega
   subst this
   rw [decide_eq_false hw, drop_end (by omega)]
   rfl
/-! ### A piece -/
theorem BytesOk.sub (hb : BytesOk bs) (a b : Nat) : BytesOk ((bs.take b).drop a) := fun x hx => hb x (List.mem_of_mem_take (List.mem_of_mem_drop hx))
theorem BytesOk.drop (hb : BytesOk bs) (a : Nat) : BytesOk (bs.drop a) := fun x hx => hb x (List.mem_of_mem_drop hx)
theorem piece_no {n a : Int} {nl : Bool} (hn : 0 ≤ n) (hn2 : n ≤ 100000) (hl : bs.length ≤ maxLen) (ha : -1 ≤ a) (ha2 : a ≤ bs.length) (h : a < 0 ∨ n > bs.length - a) : G134x0 N n a nl bs = some (false, List.replicate n.toNat (.i 0), -1) := by
 have hm : maxLen = 9223372036854775807 := rfl
 unfold G134x0 F134x0
 have e : (bif decide (a < 0) then true else decide (n > IntKind.wrap .i64 ((bs.length : Int) - a))) = true := by
  by_cases h0 : a < 0
  ·rw [decide_eq_true h0]; rfl
  ·rw [decide_eq_false h0, wrapI (by omega) (by omega)]
   exact decide_eq_true (by omega)
 have r1 : decide (n.toNat * 1 ≤ room) = true := decide_eq_true (by unfold room; omega)
 have r2 : decide (n.toNat ≤ strMax) = true := decide_eq_true (by unfold strMax; omega)
 rw [e, r1, r2, decide_eq_true hn, decide_eq_true (Int.le_refl n)]
 rfl
theorem piece_ok {n a : Int} {nl : Bool} (hn : 0 ≤ n) (hl : bs.length ≤ maxLen) (ha : 0 ≤ a) (h : a + n ≤ bs.length) : G134x0 N n a nl bs = some (nl, (bs.take (a + n).toNat).drop a.toNat, a + n) := by
 have hm : maxLen = 9223372036854775807 := rfl
 unfold G134x0 F134x0
 have e : (bif decide (a < 0) then true else decide (n > IntKind.wrap .i64 ((bs.length : Int) - a))) = false := by
  rw [decide_eq_false (by omega), wrapI (by omega) (by omega)]
  exact decide_eq_false (by omega)
 rw [e, wrapI (x := a + n) (by omega) (by omega), wrapI (x := a + n - n) (by omega) (by omega), show a + n - n = a by omega, decide_eq_true ha, decide_eq_true (show a ≤ a + n by omega), decide_eq_true (Int.le_refl (a + n)), decide_eq_true h]
 rfl
theorem sub_len {a b : Nat} (h : b ≤ bs.length) : ((bs.take b).drop a).length = b - a := by simp; omega
theorem sub_getD {a b k : Nat} (h : a + k < b) : ((bs.take b).drop a).getD k (.i 0) = bs.getD (a + k) (.i 0) := by
 simp only [List.getD_eq_getElem?_getD, List.getElem?_drop]
 rw [List.getElem?_take_of_lt h]
/-- The byte at a place. -/
def by_ (bs : List D) (i : Int) : Int := (bs.getD i.toNat (.i 0)).toI
def fldAt (bs : List D) (a : Int) : D := .a [.i (by_ bs a), .i (by_ bs (a + 1)), .i (by_ bs (a + 2))]
def trip (bs : List D) : Nat → Int → List D
 | 0, _ => []
 | c + 1, a => fldAt bs a :: trip bs c (a + 3)
theorem sub_by {a n k : Int} (ha : 0 ≤ a) (hk : 0 ≤ k) (h : k < n) : (((bs.take (a + n).toNat).drop a.toNat).getD k.toNat (.i 0)).toI = by_ bs (a + k) := by
 unfold by_
 rw [sub_getD (by omega), show (a + k).toNat = a.toNat + k.toNat by omega]
theorem by_in (hb : BytesOk bs) {i : Int} (h0 : 0 ≤ i) (h1 : i < bs.length) : 0 ≤ by_ bs i ∧ by_ bs i ≤ 255 := getB hb h0 h1
/-- The program's loop over a definition's fields. -/
theorem G133x0x48_eq (hN : maxLen < N) (hb : BytesOk bs) (hl : bs.length ≤ maxLen) {c a : Int} {nl : Bool} (h0 : 0 ≤ c) (h1 : c ≤ 255) (ha : -1 ≤ a) (ha2 : a ≤ bs.length) :
  ∃ a' fs, G133x0x48 N c nl bs 0 a true [] = some (a', fs.isEmpty, fs) ∧ FldsOk fs ∧ (0 ≤ a ∧ a + 3 * c ≤ bs.length → a' = a + 3 * c ∧ fs = trip bs c.toNat a) ∧ (¬ (0 ≤ a ∧ a + 3 * c ≤ bs.length) → a' = -1) := by
 have hm : maxLen = 9223372036854775807 := rfl
 have key := loop_indE (A := Int × Int × Bool × LD) (X := Option (Int × Bool × LD)) (S := fun x kr => S133x0x48 N c nl bs x.1 x.2.1 x.2.2.1 x.2.2.2 (fun a b c d => kr (a, b, c, d)) (fun p => some p)) (L := fun m x => L133x0x48 N c nl bs m x.1 x.2.1 x.2.2.1 x.2.2.2 (fun p => some p)) (fun m x => rfl)
  (fun x r => ∃ a' fs, r = some (a', (x.2.2.1 && fs.isEmpty), x.2.2.2 ++ fs) ∧ (fs.length : Int) = c - x.1 ∧ (∀ f ∈ fs, 0 ≤ fS f ∧ fS f ≤ 255) ∧ (0 ≤ x.2.1 ∧ x.2.1 + 3 * (c - x.1) ≤ bs.length → a' = x.2.1 + 3 * (c - x.1) ∧ fs = trip bs (c - x.1).toNat x.2.1) ∧ (¬ (0 ≤ x.2.1 ∧ x.2.1 + 3 * (c - x.1) ≤ bs.length) → a' = -1))
  (fun x => 0 ≤ x.1 ∧ x.1 ≤ c ∧ -1 ≤ x.2.1 ∧ x.2.1 ≤ bs.length ∧ (x.2.2.2.length : Int) = x.1) (fun x => (c - x.1).toNat) ?_ N (0, a, true, []) ⟨by show (0 : Int) ≤ 0; omega, by show (0 : Int) ≤ _; omega, ha, ha2, rfl⟩ (by simp; omega)
 ·obtain ⟨a', fs, q, l, f, p1, p2⟩ := key
  simp only [Int.sub_zero, List.nil_append, Bool.true_and] at q l p1 p2
  exact ⟨a', fs, q, ⟨by omega, f⟩, p1, p2⟩
 ·rintro ⟨w, a, b, acc⟩ kr ⟨h2, h3, h4, h5, h6⟩ ih
  simp only at h2 h3 h4 h5 h6 ih ⊢
  unfold S133x0x48
  by_cases hw : w < c
  ·have r1 : decide ((acc.length + 1) * 24 ≤ room) = true := decide_eq_true (by unfold room; omega)
   have r2 : decide (acc.length + 1 ≤ strMax) = true := decide_eq_true (by unfold strMax; omega)
   have i0 : inB 0 3 = true := rfl
   have i1 : inB 1 3 = true := rfl
   have i2 : inB 2 3 = true := rfl
   have w8 : IntKind.wrap .u8 (w + 1) = w + 1 := by simp only [IntKind.wrap_u8]; omega
   rw [decide_eq_true hw]
   by_cases hp : 0 ≤ a ∧ a + 3 ≤ bs.length
   ·obtain ⟨hp1, hp2⟩ := hp
    have l3 : ((bs.take (a + 3).toNat).drop a.toNat).length = 3 := by rw [sub_len (by omega)]; omega
    have b0 := by_in hb (i := a + 0) (by omega) (by omega)
    have b1 := by_in hb (i := a + 1) (by omega) (by omega)
    have b2 := by_in hb (i := a + 2) (by omega) (by omega)
    have v0 := sub_by (bs := bs) (a := a) (n := 3) (k := 0) hp1 (by omega) (by omega)
    have v1 := sub_by (bs := bs) (a := a) (n := 3) (k := 1) hp1 (by omega) (by omega)
    have v2 := sub_by (bs := bs) (a := a) (n := 3) (k := 2) hp1 (by omega) (by omega)
    simp only [_root_.cond_true, bnd_eq, piece_ok (n := 3) (nl := nl) (N := N) (by omega) hl hp1 hp2, Option.isSome_some, getD_some, l3, i0, i1, i2, w8, r1, r2, Bool.and_self]
    have e0 : ((bs.take (a + 3).toNat).drop a.toNat).getD 0 (.i 0) = ((bs.take (a + 3).toNat).drop a.toNat).getD (0 : Int).toNat (.i 0) := rfl
    have e1 : ((bs.take (a + 3).toNat).drop a.toNat).getD 1 (.i 0) = ((bs.take (a + 3).toNat).drop a.toNat).getD (1 : Int).toNat (.i 0) := rfl
    have e2 : ((bs.take (a + 3).toNat).drop a.toNat).getD 2 (.i 0) = ((bs.take (a + 3).toNat).drop a.toNat).getD (2 : Int).toNat (.i 0) := rfl
    rw [e0, e1, e2, v0, v1, v2, wrapI (x := by_ bs (a + 0)) (by omega) (by omega), wrapI (x := by_ bs (a + 1)) (by omega) (by omega), wrapI (x := by_ bs (a + 2)) (by omega) (by omega)]
    obtain ⟨a', fs, q, l, f, p1, p2⟩ := ih (w + 1, a + 3, false, acc ++ [.a [.i (by_ bs (a + 0)), .i (by_ bs (a + 1)), .i (by_ bs (a + 2))]]) ⟨by simp only; omega, by simp only; omega, by simp only; omega, by simp only; omega, by simp; omega⟩ (by simp only; omega)
    simp only at q l p1 p2
    refine ⟨a', fldAt bs a :: fs, ?_, by simp; omega, ?_, fun h => ?_, fun h => p2 (by omega)⟩
    ·have ef : fldAt bs a = .a [.i (by_ bs (a + 0)), .i (by_ bs (a + 1)), .i (by_ bs (a + 2))] := by unfold fldAt; rw [Int.add_zero]
     rw [ef]
     rw [List.append_assoc, Bool.false_and] at q
     rw [List.isEmpty_cons, Bool.and_false]
     exact q
    ·intro g hg
     rcases List.mem_cons.1 hg with rfl | hg
     ·exact b1
     ·exact f g hg
    ·obtain ⟨q1, q2⟩ := p1 (by omega)
     refine ⟨by omega, ?_⟩
     rw [show (c - w).toNat = (c - (w + 1)).toNat + 1 by omega]
     simp only [trip]
     rw [← q2]
   ·simp only [_root_.cond_true, bnd_eq, piece_no (n := 3) (nl := nl) (N := N) (by omega) (by omega) hl h4 h5 (by omega), Option.isSome_some, getD_some, List.length_replicate, show (3 : Int).toNat = 3 from rfl, i0, i1, i2, w8, r1, r2, Bool.and_self]
    obtain ⟨a', fs, q, l, f, p1, p2⟩ := ih (w + 1, -1, false, acc ++ [.a [.i 0, .i 0, .i 0]]) ⟨by simp only; omega, by simp only; omega, by simp only; omega, by simp only; omega, by simp; omega⟩ (by simp only; omega)
    simp only at q l p1 p2
    refine ⟨a', .a [.i 0, .i 0, .i 0] :: fs, ?_, by simp; omega, ?_, fun h => by omega, fun h => p2 (by omega)⟩
    ·rw [List.append_assoc, Bool.false_and] at q
     rw [List.isEmpty_cons, Bool.and_false]
     exact q
    ·intro g hg
     rcases List.mem_cons.1 hg with rfl | hg
     ·exact ⟨by decide, by decide⟩
     ·exact f g hg
  ·have : w = c := by omega
   subst this
   rw [decide_eq_false hw]
   exact ⟨a, [], by simp, by simp, by simp, fun h => by simp [trip], fun h => by omega⟩
end
end Go.Proofs.Ytnnofignhdijiaa

/-! Plain laws: how many bytes an entry takes. -/
namespace Go.Proofs.Ytnnofignhdijiaa
open Go Go.AM
set_option maxRecDepth 100000
set_option maxHeartbeats 4000000
set_option linter.unusedVariables false
variable {N : Nat}
section
variable {bs : List D}
end
end Go.Proofs.Ytnnofignhdijiaa

/-! Plain laws: one entry read (entries of the program, readEntry of the reference). -/
namespace Go.Proofs.Ytnnofignhdijiaa
open Go Go.AM
set_option maxRecDepth 100000
set_option maxHeartbeats 4000000
set_option linter.unusedVariables false
variable {N : Nat}
/-- The end of the program's reading of data. -/
noncomputable def tailP (N : Nat) (kind slot off a : Int) (nl : Bool) (bs : List D) (p : D) : Option TyA :=
 bif (inB slot 16) then
  bnd (bif (decide (a < 0)) then true else (!(p.cell (0 + (slot.toNat * 6))).toB)) fun y3 =>
  bnd (bif y3 then true else (bif (kind == 3) then (decide ((p.cell (5 + (slot.toNat * 6))).toI < 0)) else false)) fun y4 =>
  bif y4 then
   some (kind, slot, off, true, [], true, [], false, a, p)
  else
   bnd (V133x0x89 N (p.cell (4 + (slot.toNat * 6))).toI (kind == 3)) fun y5 =>
   bnd (G134x0 N y5 a nl bs) fun y6 =>
   bif y6.isSome then
    bnd (G129x0 N (y6.getD default).1 (y6.getD default).2.1) fun y7 =>
    bif y7.isSome then
     some (kind, slot, off, true, [], (y7.getD default).1, (y7.getD default).2, (decide ((y6.getD default).2.2 ≥ 0)), (y6.getD default).2.2, p)
    else
     none
   else
    none
 else
  none
section
variable {bs : List D} {p s : D}
theorem clone_no {xs : List D} (h : xs.length ≤ 100000) : G129x0 N false xs = some (false, xs) := by
 have r1 : decide ((0 + xs.length) * 1 ≤ room) = true := decide_eq_true (by unfold room; omega)
 have r2 : decide (0 + xs.length ≤ strMax) = true := decide_eq_true (by unfold strMax; omega)
 unfold G129x0 F129x0
 rw [r1, r2]
 simp
end
end Go.Proofs.Ytnnofignhdijiaa

/-! Plain laws: a definition read; one entry read. -/
namespace Go.Proofs.Ytnnofignhdijiaa
open Go Go.AM
set_option maxRecDepth 100000
set_option maxHeartbeats 4000000
set_option linter.unusedVariables false
variable {N : Nat}
/-- A definition that lies at a place. -/
def defAt (bs : List D) (a : Int) : D :=
 .a [.b (by_ bs (a + 1) == 1), .i (numB ((bs.take (a + 4).toNat).drop (a + 2).toNat) (by_ bs (a + 1) == 1)), .l (trip bs (by_ bs (a + 4)).toNat (a + 5)).isEmpty (trip bs (by_ bs (a + 4)).toNat (a + 5))]
/-- Where a definition ends. -/
def defIn (bs : List D) (a : Int) : Prop := a + 5 ≤ bs.length ∧ a + 5 + 3 * by_ bs (a + 4) ≤ bs.length
section
variable {bs : List D} {p s : D}
theorem piece_any (hb : BytesOk bs) (hl : bs.length ≤ maxLen) {n a : Int} {nl : Bool} (hn : 0 ≤ n) (hn2 : n ≤ 100000) (ha : -1 ≤ a) (ha2 : a ≤ bs.length) :
  ∃ nl' xs a', G134x0 N n a nl bs = some (nl', xs, a') ∧ xs.length = n.toNat ∧ BytesOk xs ∧ -1 ≤ a' ∧ a' ≤ bs.length ∧ (0 ≤ a ∧ a + n ≤ bs.length → a' = a + n ∧ xs = (bs.take (a + n).toNat).drop a.toNat) ∧ (¬ (0 ≤ a ∧ a + n ≤ bs.length) → a' = -1) := by
 by_cases h : 0 ≤ a ∧ a + n ≤ bs.length
 ·obtain ⟨h1, h2⟩ := h
  exact ⟨_, _, _, piece_ok hn hl h1 h2, by rw [sub_len (by omega)]; omega, hb.sub _ _, by omega, by omega, fun _ => ⟨rfl, rfl⟩, fun h => absurd ⟨h1, h2⟩ h⟩
 ·refine ⟨_, _, _, piece_no hn hn2 hl ha ha2 (by omega), by simp, fun x hx => ?_, by omega, by omega, fun h' => absurd h' h, fun _ => rfl⟩
  rw [(List.mem_replicate.1 hx).2]
  exact ⟨by decide, by decide⟩
theorem one_by {n a : Int} {xs : List D} (ha : 0 ≤ a) (hn : n = 1) (h : xs = (bs.take (a + n).toNat).drop a.toNat) : (xs.getD 0 (.i 0)).toI = by_ bs a := by
 subst h hn
 have := sub_by (bs := bs) (a := a) (n := 1) (k := 0) ha (by omega) (by omega)
 rw [Int.add_zero] at this
 exact this
theorem byte0 {xs : List D} (hb : BytesOk xs) (h : xs.length = 1) : 0 ≤ (xs.getD 0 (.i 0)).toI ∧ (xs.getD 0 (.i 0)).toI ≤ 255 := getB (i := 0) hb (by omega) (by omega)
/-- The program's definition. -/
theorem prog_def (hN : maxLen < N) (hb : BytesOk bs) (hl : bs.length ≤ maxLen) {a c : Int} {nl : Bool} (h0 : 0 ≤ a) (h1 : a < bs.length) (c0 : 64 ≤ c) (c1 : c ≤ 79) :
  ∃ ok a' p' d, G133x0x24023 N c false (a + 1) nl bs p = some (.inr (.inl (ok, a', p', c - 64, c - 64, [d]))) ∧
   (ok = true ↔ (defIn bs a ∧ by_ bs (a + 1) ≤ 1)) ∧
   (defIn bs a → a' = a + 5 + 3 * by_ bs (a + 4) ∧ d = defAt bs a ∧ ∀ s, Slots p s → Slots p' ((((s.put (0 + (c - 64).toNat * 1) (.b true)).put (16 + (c - 64).toNat * 3) (.b (by_ bs (a + 1) == 1))).put (17 + (c - 64).toNat * 3) (.i (numB ((bs.take (a + 4).toNat).drop (a + 2).toNat) (by_ bs (a + 1) == 1)))).put (18 + (c - 64).toNat * 3) (.l (trip bs (by_ bs (a + 4)).toNat (a + 5)).isEmpty (trip bs (by_ bs (a + 4)).toNat (a + 5))))) := by
 have hm : maxLen = 9223372036854775807 := rfl
 obtain ⟨nl1, x1, a1, q1, l1, b1, m1, M1, y1, n1⟩ := piece_any (N := N) hb hl (n := 1) (a := a + 1) (nl := nl) (by omega) (by omega) (by omega) (by omega)
 obtain ⟨nl2, x2, a2, q2, l2, b2, m2, M2, y2, n2⟩ := piece_any (N := N) hb hl (n := 2) (a := a1) (nl := nl) (by omega) (by omega) (by omega) (by omega)
 obtain ⟨nl3, x3, a3, q3, l3, b3, m3, M3, y3, n3⟩ := piece_any (N := N) hb hl (n := 1) (a := a2) (nl := nl) (by omega) (by omega) (by omega) (by omega)
 have l1' : x1.length = 1 := l1
 have l2' : x2.length = 2 := l2
 have l3' : x3.length = 1 := l3
 have k1 := byte0 b1 l1'
 have k3 := byte0 b3 l3'
 obtain ⟨a4, fs, q4, fo, y4, n4⟩ := G133x0x48_eq (N := N) hN hb hl (c := (x3.getD 0 (.i 0)).toI) (a := a3) (nl := nl) k3.1 k3.2 m3 M3
 have i1 : inB (c - 64) 16 = true := inB_of (by omega) (by omega)
 have i0 : inB 0 1 = true := rfl
 have hv : V52x0 N c 64 79 = true := by
  rw [V52x0_eq]; unfold inI; simp; omega
 refine ⟨(bif decide (a4 ≥ 0) then decide ((x1.getD 0 (.i 0)).toI ≤ 1) else false), a4, ((((((p.put (0 + ((c - 64).toNat * 6)) (.b true)).put (1 + ((c - 64).toNat * 6)) (.b ((x1.getD 0 (.i 0)).toI == 1))).put (2 + ((c - 64).toNat * 6)) (.i (numB x2 ((x1.getD 0 (.i 0)).toI == 1)))).put (3 + ((c - 64).toNat * 6)) (.l fs.isEmpty fs)).put (4 + ((c - 64).toNat * 6)) (.i (szL fs))).put (5 + ((c - 64).toNat * 6)) (.i (tmL 0 fs))), .a [.b ((x1.getD 0 (.i 0)).toI == 1), .i (numB x2 ((x1.getD 0 (.i 0)).toI == 1)), .l fs.isEmpty fs], ?_, ?_, fun hd => ?_⟩
 ·unfold G133x0x24023 F133x0x24023
  simp only [_root_.cond_false, decide_eq_false (show ¬ c < 16 by omega), bnd_eq, hv, _root_.cond_true, q1, q2, q3, Option.isSome_some, getD_some, l1', l3', i0, G81x0_eq (N := N) hN b2 _ (show x2.length ≤ 4 by omega), q4, G123x0_eq hN fo, wrapI (x := c - 64) (by omega) (by omega), i1]
 ·have hc : by_ bs (a + 4) = by_ bs (a + 4) := rfl
  constructor
  ·intro h
   by_cases h4 : a4 ≥ 0
   ·rw [decide_eq_true h4] at h
    simp only [_root_.cond_true, decide_eq_true_eq] at h
    have g4 : 0 ≤ a3 ∧ a3 + 3 * (x3.getD 0 (.i 0)).toI ≤ bs.length := by
     refine Classical.byContradiction fun hh => ?_
     have := n4 hh; omega
    have g3 : 0 ≤ a2 ∧ a2 + 1 ≤ bs.length := by
     refine Classical.byContradiction fun hh => ?_
     have := n3 hh; omega
    have g2 : 0 ≤ a1 ∧ a1 + 2 ≤ bs.length := by
     refine Classical.byContradiction fun hh => ?_
     have := n2 hh; omega
    have g1 : 0 ≤ a + 1 ∧ a + 1 + 1 ≤ bs.length := by
     refine Classical.byContradiction fun hh => ?_
     have := n1 hh; omega
    obtain ⟨e1, z1⟩ := y1 g1
    obtain ⟨e2, z2⟩ := y2 g2
    obtain ⟨e3, z3⟩ := y3 g3
    have v1 := one_by (by omega) rfl z1
    have v3 := one_by (by omega) rfl z3
    have ea2 : a2 = a + 4 := by omega
    rw [ea2] at v3
    rw [v1] at h
    rw [v3] at g4
    exact ⟨⟨by omega, by omega⟩, h⟩
   ·rw [decide_eq_false h4] at h; exact absurd h (by simp)
  ·rintro ⟨⟨h5, h6⟩, h7⟩
   obtain ⟨e1, z1⟩ := y1 (by omega)
   obtain ⟨e2, z2⟩ := y2 (by omega)
   obtain ⟨e3, z3⟩ := y3 (by omega)
   have v1 := one_by (by omega) rfl z1
   have v3 := one_by (by omega) rfl z3
   have ea2 : a2 = a + 4 := by omega
   rw [ea2] at v3
   obtain ⟨e4, z4⟩ := y4 (by rw [v3]; omega)
   rw [v1, decide_eq_true (show a4 ≥ 0 by omega), decide_eq_true h7]; rfl
 ·obtain ⟨h5, h6⟩ := hd
  obtain ⟨e1, z1⟩ := y1 (by omega)
  obtain ⟨e2, z2⟩ := y2 (by omega)
  obtain ⟨e3, z3⟩ := y3 (by omega)
  have v1 := one_by (by omega) rfl z1
  have v3 := one_by (by omega) rfl z3
  have ea2 : a2 = a + 4 := by omega
  rw [ea2] at v3
  obtain ⟨e4, z4⟩ := y4 (by rw [v3]; omega)
  have ea1 : a1 = a + 2 := by omega
  have ea3 : a3 = a + 5 := by omega
  rw [ea1, show a + 2 + 2 = a + 4 by omega] at z2
  rw [ea3, v3] at z4 e4
  refine ⟨e4, ?_, fun s hs => ?_⟩
  ·unfold defAt
   rw [v1, z2, ← z4]
  ·rw [v1, ← z2, ← z4]
   exact slots_put hs (by omega) fo
end
end Go.Proofs.Ytnnofignhdijiaa

/-! Plain laws: one entry read. -/
namespace Go.Proofs.Ytnnofignhdijiaa
open Go Go.AM
set_option maxRecDepth 100000
set_option maxHeartbeats 4000000
set_option linter.unusedVariables false
variable {N : Nat}
section
variable {bs : List D} {p s : D}
end
end Go.Proofs.Ytnnofignhdijiaa

/-! Plain laws: Read and Salvage. -/
namespace Go.Proofs.Ytnnofignhdijiaa
open Go Go.AM
set_option maxRecDepth 100000
set_option maxHeartbeats 4000000
set_option linter.unusedVariables false
variable {N : Nat}
section
variable {b : List D}
/-- A list of entries that are possible. -/
structure Lst (l : List D) : Prop where
 e : ∀ x ∈ l, EntD x
 n : l.length ≤ 10000000
theorem Lst.nil : Lst [] := ⟨by simp, by simp⟩
theorem zero82 : Slots (V82x0 N) zeroS := zero_slots _ (by kernel_rfl)
end
end Go.Proofs.Ytnnofignhdijiaa

/-! Plain laws: Salvage. -/
namespace Go.Proofs.Ytnnofignhdijiaa
open Go Go.AM
set_option maxRecDepth 100000
set_option maxHeartbeats 4000000
set_option linter.unusedVariables false
variable {N : Nat}
section
variable {b : List D}
end
end Go.Proofs.Ytnnofignhdijiaa

/-! Plain laws: what the law compares is the same as itself. -/
namespace Go.Proofs.Ytnnofignhdijiaa
open Go Go.AM
set_option maxRecDepth 100000
set_option maxHeartbeats 4000000
set_option linter.unusedVariables false
variable {N : Nat}
theorem zipAll_true : ∀ xs : List D, zipAll (fun _ _ => true) xs xs = true
 | [] => rfl
 | x :: r => by simp only [zipAll, Bool.true_and]; exact zipAll_true r
theorem inB_mem {xs : List D} {w : Int} (h : inB w xs.length = true) : xs.getD w.toNat (.i 0) ∈ xs := by
 unfold inB at h
 simp at h
 exact getD_mem h.1 h.2
/-- A loop over a list and itself that finds nothing. -/
theorem refl_ind {xs : List D} {S : Int → (Int → Option (Sum Unit Unit)) → Option (Sum Unit Unit)} {L : Nat → Int → Option (Sum Unit Unit)} (hL : ∀ m a, L (m + 1) a = S a (L m)) (hlen : xs.length ≤ maxLen)
  (hend : ∀ kr, S xs.length kr = some (.inr ()))
  (hstep : ∀ (w : Int) (kr : Int → Option (Sum Unit Unit)), decide (w < xs.length) = true → inB w xs.length = true → xs.getD w.toNat (.i 0) ∈ xs → S w kr = kr (IntKind.wrap .i64 (w + 1)))
  (hN : maxLen < N) : L N 0 = some (.inr ()) := by
 have := zip_ind (xs := xs) (ys := xs) (fun _ _ => true) hL hlen rfl hend (fun w kr h1 h2 _ => by rw [hstep w kr h1 h2 (inB_mem h2)]; rfl) hN
 rw [this, zipAll_true]
 rfl
section
variable {xs : List D}
theorem len_self (xs : List D) : ((xs.length : Int) != (xs.length : Int)) = false := by simp
theorem G140_refl (hN : maxLen < N) (hl : xs.length ≤ maxLen) : G140x0 N xs xs = some true := by
 have k : G140x0x12 N xs xs xs.length 0 = some (.inr ()) := by
  refine refl_ind (S := fun w kr => S140x0x12 N xs xs xs.length w kr _ _) (L := fun m w => L140x0x12 N xs xs xs.length m w _ _) (fun m w => rfl) hl (fun kr => by simp [S140x0x12]) (fun w kr h1 h2 h3 => ?_) hN
  unfold S140x0x12
  rw [h1, h2]
  simp [bnd_eq]
 unfold G140x0 F140x0
 rw [len_self, k]; rfl
theorem G25_refl (hN : maxLen < N) (hl : xs.length ≤ maxLen) : G25x0 N xs xs = some true := by
 have k : G25x0x12 N xs xs xs.length 0 = some (.inr ()) := by
  refine refl_ind (S := fun w kr => S25x0x12 N xs xs xs.length w kr _ _) (L := fun m w => L25x0x12 N xs xs xs.length m w _ _) (fun m w => rfl) hl (fun kr => by simp [S25x0x12]) (fun w kr h1 h2 h3 => ?_) hN
  unfold S25x0x12
  rw [h1, h2]
  simp [bnd_eq]
 unfold G25x0 F25x0
 rw [len_self, k]; rfl
theorem G104_refl (hN : maxLen < N) (hl : xs.length ≤ maxLen) (a : Bool) (g : Int) : G104x0 N a g xs a g xs = some true := by
 unfold G104x0 F104x0 G104x0x4 F104x0x4
 rw [G140_refl hN hl]
 simp [bnd_eq]
end
end Go.Proofs.Ytnnofignhdijiaa

/-! Plain laws: what is known behind some entries, as plain functions. -/
namespace Go.Proofs.Ytnnofignhdijiaa
open Go Go.AM
set_option maxRecDepth 100000
set_option maxHeartbeats 4000000
set_option linter.unusedVariables false
variable {N : Nat}
abbrev kX (x : D) : Int := (x.cell 0).toI
abbrev sX (x : D) : Int := (x.cell 1).toI
abbrev oX (x : D) : Int := (x.cell 2).toI
abbrev dX (x : D) : List D := (x.cell 3).items
abbrev bX (x : D) : List D := (x.cell 4).items
abbrev d0X (x : D) : D := (dX x).getD 0 (.i 0)
/-- The definitions by slots, and the last time. -/
structure Ab where
 kn : Nat → Bool
 bg : Nat → Bool
 gl : Nat → Int
 fs : Nat → List D
 last : Int
def Ab.start : Ab := ⟨fun _ => false, fun _ => false, fun _ => 0, fun _ => [], -1⟩
def upA {α : Type} (f : Nat → α) (j : Nat) (x : α) : Nat → α := fun i => if i = j then x else f i
def timeC (a : Ab) (kind slot off : Int) (data : List D) : Int :=
 bif kind == 1 then -1 else bif kind == 3 then a.last + (off - a.last % 32 + 32) % 32 else
 bif decide (tmL 0 (a.fs slot.toNat) < 0) then -1 else
 bif numB ((data.take (tmL 0 (a.fs slot.toNat) + 4).toNat).drop (tmL 0 (a.fs slot.toNat)).toNat) (a.bg slot.toNat) == 4294967295 then -1 else numB ((data.take (tmL 0 (a.fs slot.toNat) + 4).toNat).drop (tmL 0 (a.fs slot.toNat)).toNat) (a.bg slot.toNat)
def stepD (a : Ab) (kind slot off : Int) (ds data : List D) : Ab :=
 bif kind == 1 then { a with kn := upA a.kn slot.toNat true, bg := upA a.bg slot.toNat ((ds.getD 0 (.i 0)).cell 0).toB, gl := upA a.gl slot.toNat ((ds.getD 0 (.i 0)).cell 1).toI, fs := upA a.fs slot.toNat ((ds.getD 0 (.i 0)).cell 2).items } else
 { a with last := bif decide (timeC a kind slot off data ≥ 0) then timeC a kind slot off data else a.last }
abbrev timeE (a : Ab) (x : D) : Int := timeC a (kX x) (sX x) (oX x) (bX x)
abbrev stepA (a : Ab) (x : D) : Ab := stepD a (kX x) (sX x) (oX x) (dX x) (bX x)
def errC (a : Ab) (kind slot off : Int) (ds data : List D) : Int := entE kind slot off ds data (a.kn slot.toNat) (szL (a.fs slot.toNat)) (tmL 0 (a.fs slot.toNat)) a.last
abbrev errE (a : Ab) (x : D) : Int := errC a (kX x) (sX x) (oX x) (dX x) (bX x)
structure SlP (p : D) (a : Ab) : Prop where
 kn : ∀ j : Nat, j < 16 → (p.cell (0 + j * 6)).toB = a.kn j
 df : ∀ j : Nat, j < 16 → a.kn j = true → FldsOk (a.fs j) ∧ (p.cell (1 + j * 6)).toB = a.bg j ∧ (p.cell (2 + j * 6)).toI = a.gl j ∧ (p.cell (3 + j * 6)).items = a.fs j ∧ (p.cell (4 + j * 6)).toI = szL (a.fs j) ∧ (p.cell (5 + j * 6)).toI = tmL 0 (a.fs j)
structure SlS (s : D) (a : Ab) : Prop where
 kn : ∀ j : Nat, j < 16 → (s.cell (0 + j * 1)).toB = a.kn j
 df : ∀ j : Nat, j < 16 → a.kn j = true → (s.cell (16 + j * 3)).toB = a.bg j ∧ (s.cell (17 + j * 3)).toI = a.gl j ∧ (s.cell (18 + j * 3)).items = a.fs j
/-- The program's walk and the reference's state stand for a; k: how many entries came. -/
structure Wk (p s : D) (a : Ab) (k : Int) : Prop where
 pp : SlP p a
 ss : SlS s a
 lp : (p.cell 96).toI = a.last
 ls : (s.cell 64).toI = a.last
 lo : -1 ≤ a.last
 hi : a.last ≤ 4294967295 + 32 * k
theorem slots_of {p s : D} {a : Ab} (hp : SlP p a) (hs : SlS s a) : Slots p s :=
 ⟨fun j hj => by rw [hp.kn j hj, hs.kn j hj], fun j hj hk => by
  rw [hp.kn j hj] at hk
  obtain ⟨p1, p2, p3, p4, p5, p6⟩ := hp.df j hj hk
  obtain ⟨s1, s2, s3⟩ := hs.df j hj hk
  rw [p2, p3, p4, p5, p6, s1, s2, s3]
  exact ⟨p1, rfl, rfl, rfl, rfl, rfl⟩⟩
theorem Wk.sim {p s : D} {a : Ab} {k : Int} (h : Wk p s a k) : Sim p s k := ⟨slots_of h.pp h.ss, by rw [h.lp, h.ls], by rw [h.lp]; exact h.lo, by rw [h.lp]; exact h.hi⟩
theorem entE_known {kind slot off : Int} {ds data : List D} {size time size' time' last : Int} : entE kind slot off ds data false size time last = entE kind slot off ds data false size' time' last := by
 unfold entE; rfl
theorem err_of {p : D} {a : Ab} (hp : SlP p a) (lp : (p.cell 96).toI = a.last) {kind slot off : Int} {ds data : List D} : entE kind slot off ds data (p.cell (0 + slot.toNat * 6)).toB (p.cell (4 + slot.toNat * 6)).toI (p.cell (5 + slot.toNat * 6)).toI (p.cell 96).toI = errC a kind slot off ds data := by
 unfold errC
 rw [lp]
 by_cases h1 : inI slot 0 (bif kind == 3 then 3 else 15) = true
 ·obtain ⟨_, h2⟩ := slot_in h1
  rw [hp.kn _ h2]
  cases hk : a.kn slot.toNat with
  | false => exact entE_known
  | true =>
   obtain ⟨_, _, _, _, p5, p6⟩ := hp.df _ h2 hk
   rw [p5, p6]
 ·have h1 : inI slot 0 (bif kind == 3 then 3 else 15) = false := by simpa using h1
  unfold entE
  rw [h1]
  rfl
section
variable {kind slot off : Int} {ds data : List D} {p s : D} {a : Ab} {k : Int}
theorem slP_put (hp : SlP p a) {j : Nat} (i2 : j < 16) {big : Bool} {g : Int} {nl : Bool} {fs : List D} (hf : FldsOk fs) {last : Int} :
  SlP ((((((p.put (0 + j * 6) (.b true)).put (1 + j * 6) (.b big)).put (2 + j * 6) (.i g)).put (3 + j * 6) (.l nl fs)).put (4 + j * 6) (.i (szL fs))).put (5 + j * 6) (.i (tmL 0 fs))) { kn := upA a.kn j true, bg := upA a.bg j big, gl := upA a.gl j g, fs := upA a.fs j fs, last := last } := by
 refine ⟨fun i hi => ?_, fun i hi hkn => ?_⟩
 ·rw [(put6 i).1]
  unfold upA
  by_cases h : i = j
  ·simp only [if_pos h]; rfl
  ·simp only [if_neg h]; exact hp.kn i hi
 ·obtain ⟨a0, a1, a2, a3, a4, a5⟩ := put6 (p := p) (a := j) (x0 := .b true) (x1 := .b big) (x2 := .i g) (x3 := .l nl fs) (x4 := .i (szL fs)) (x5 := .i (tmL 0 fs)) i
  rw [a1, a2, a3, a4, a5]
  unfold upA at hkn ⊢
  by_cases h : i = j
  ·simp only [if_pos h]
   refine ⟨hf, ?_, ?_, ?_, ?_, ?_⟩ <;> first | trivial | rfl
  ·simp only [if_neg h] at hkn ⊢
   exact hp.df i hi hkn
theorem slS_put (hs : SlS s a) {j : Nat} (i2 : j < 16) {big : Bool} {g : Int} {nl : Bool} {fs : List D} {last : Int} :
  SlS ((((s.put (0 + j * 1) (.b true)).put (16 + j * 3) (.b big)).put (17 + j * 3) (.i g)).put (18 + j * 3) (.l nl fs)) { kn := upA a.kn j true, bg := upA a.bg j big, gl := upA a.gl j g, fs := upA a.fs j fs, last := last } := by
 refine ⟨fun i hi => ?_, fun i hi hkn => ?_⟩
 ·rw [(put4 i2 i hi).1]
  unfold upA
  by_cases h : i = j
  ·simp only [if_pos h]; rfl
  ·simp only [if_neg h]; exact hs.kn i hi
 ·obtain ⟨b0, b1, b2, b3, _⟩ := put4 (s := s) (x0 := .b true) (x1 := .b big) (x2 := .i g) (x3 := .l nl fs) i2 i hi
  rw [b1, b2, b3]
  unfold upA at hkn ⊢
  by_cases h : i = j
  ·simp only [if_pos h]
   refine ⟨?_, ?_, ?_⟩ <;> first | trivial | rfl
  ·simp only [if_neg h] at hkn ⊢
   exact hs.df i hi hkn
theorem slP_last (hp : SlP p a) {x : D} {l : Int} : SlP (p.put 96 x) { a with last := l } := by
 have c1 : ∀ c j : Nat, c < 6 → j < 16 → (p.put 96 x).cell (c + j * 6) = p.cell (c + j * 6) := fun c j hc hj => by rw [cell_put, if_neg (by omega)]
 refine ⟨fun j hj => ?_, fun j hj hk => ?_⟩
 ·rw [c1 0 j (by omega) hj]; exact hp.kn j hj
 ·rw [c1 1 j (by omega) hj, c1 2 j (by omega) hj, c1 3 j (by omega) hj, c1 4 j (by omega) hj, c1 5 j (by omega) hj]
  exact hp.df j hj hk
theorem slS_last (hs : SlS s a) {x : D} {l : Int} : SlS (s.put 64 x) { a with last := l } := by
 have c2 : ∀ j : Nat, j < 16 → (s.put 64 x).cell (0 + j * 1) = s.cell (0 + j * 1) ∧ (s.put 64 x).cell (16 + j * 3) = s.cell (16 + j * 3) ∧ (s.put 64 x).cell (17 + j * 3) = s.cell (17 + j * 3) ∧ (s.put 64 x).cell (18 + j * 3) = s.cell (18 + j * 3) := fun j hj => by
  refine ⟨?_, ?_, ?_, ?_⟩ <;> rw [cell_put, if_neg (by omega)]
 refine ⟨fun j hj => ?_, fun j hj hk => ?_⟩
 ·rw [(c2 j hj).1]; exact hs.kn j hj
 ·rw [(c2 j hj).2.1, (c2 j hj).2.2.1, (c2 j hj).2.2.2]
  exact hs.df j hj hk
theorem slP_same (hp : SlP p a) {l : Int} : SlP p { a with last := l } := ⟨hp.kn, hp.df⟩
theorem slS_same (hs : SlS s a) {l : Int} : SlS s { a with last := l } := ⟨hs.kn, hs.df⟩
theorem Wk.put (h : Wk p s a k) {t : Int} (h0 : 0 ≤ t) (h1 : t ≤ 4294967295 + 32 * (k + 1)) : Wk (p.put 96 (.i t)) (s.put 64 (.i t)) { a with last := t } (k + 1) :=
 ⟨slP_last h.pp, slS_last h.ss, by simp [cell_put, D.toI], by simp [cell_put, D.toI], by simp only; omega, h1⟩
theorem Wk.more (h : Wk p s a k) : Wk p s a (k + 1) := ⟨h.pp, h.ss, h.lp, h.ls, h.lo, by have := h.hi; omega⟩
theorem take_abs (hN : maxLen < N) (hs : Wk p s a k) (he : EntL ds data) (h0 : 0 ≤ k) (h1 : k ≤ 100000) (hE : errC a kind slot off ds data = 0) :
  ∃ p' s', G72x0 N kind slot off ds data p = some (timeC a kind slot off data, p') ∧ G74x0 N kind slot off ds data s = some (timeC a kind slot off data, s') ∧ Wk p' s' (stepD a kind slot off ds data) (k + 1) := by
 have hm : maxLen = 9223372036854775807 := rfl
 have hE := entE_ok hE
 obtain ⟨i1, i2⟩ := hE.s
 unfold G72x0 F72x0 G72x0x15014 F72x0x15014 G74x0 F74x0 stepD timeC
 have e38 : ∀ q, V72x0x38 N (-1) false q = q := fun q => rfl
 rw [i1]
 by_cases hk1 : kind = 1
 ·subst hk1
  obtain ⟨d1, d2⟩ := hE.d rfl
  have hf := defE_ok d2
  have q1 := G123x0_eq hN hf
  simp only [beq_self_eq_true, _root_.cond_true, inB_of (i := 0) (n := ds.length) (by omega) (by omega), bnd_eq, q1, Option.isSome_some, getD_some]
  have e1 : decide ((-1 : Int) ≥ 0) = false := by decide
  rw [e1, e38]
  refine ⟨_, _, rfl, rfl, ?_⟩
  refine ⟨slP_put hs.pp i2 hf, slS_put hs.ss i2, ?_, ?_, hs.lo, by have := hs.hi; simp only; omega⟩
  ·rw [put6_last i2]; exact hs.lp
  ·rw [(put4 i2 0 (by omega)).2.2.2.2]; exact hs.ls
 ·have hk1' : (kind == 1) = false := by simpa using hk1
  obtain ⟨kn, _⟩ := hE.n hk1
  obtain ⟨d1, d2, d3, d4, d5, d6⟩ := hs.pp.df _ i2 kn
  obtain ⟨s2, s3, s4⟩ := hs.ss.df _ i2 kn
  unfold G72x0x21020 F72x0x21020
  rw [hk1']
  simp only [_root_.cond_false, bnd_eq, hs.lp, hs.ls, d2, d6, s2, s4]
  have hlo := hs.lo
  have hhi := hs.hi
  by_cases hk3 : kind = 3
  ·subst hk3
   obtain ⟨t0, l0, o0, o1, _⟩ := hE.h rfl
   have m0 : a.last.tmod 32 = a.last % 32 := Int.tmod_eq_emod_of_nonneg l0
   have w1 : IntKind.wrap .i64 (off - a.last % 32) = off - a.last % 32 := wrapI (by omega) (by omega)
   have w2 : IntKind.wrap .i64 (off - a.last % 32 + 32) = off - a.last % 32 + 32 := wrapI (by omega) (by omega)
   have m1 : (off - a.last % 32 + 32).tmod 32 = (off - a.last % 32 + 32) % 32 := Int.tmod_eq_emod_of_nonneg (by omega)
   have w3 : IntKind.wrap .i64 (a.last + (off - a.last % 32 + 32) % 32) = a.last + (off - a.last % 32 + 32) % 32 := wrapI (by omega) (by omega)
   simp only [beq_self_eq_true, _root_.cond_true, m0, w1, w2, m1, w3, Option.isSome_some, getD_some, V72x0x38, F72x0x38]
   rw [decide_eq_true (show a.last + (off - a.last % 32 + 32) % 32 ≥ 0 by omega)]
   simp only [_root_.cond_true]
   refine ⟨_, _, rfl, ?_, hs.put (t := a.last + (off - a.last % 32 + 32) % 32) (by omega) (by omega)⟩
   rw [cell_put, if_pos rfl]
   rfl
  ·have hk2 : kind = 2 := by have := hE.k; omega
   subst hk2
   have hlen := hE.t rfl
   have e3 : ((2 : Int) == 3) = false := by decide
   rw [e3]
   unfold G72x0x26 F72x0x26
   rw [G79x0_eq hN d1]
   have tb := tmL_bound (a := 0) (by omega) d1.size
   by_cases ht : tmL 0 (a.fs slot.toNat) < 0
   ·rw [decide_eq_true ht, decide_eq_false (by omega : ¬ tmL 0 (a.fs slot.toNat) ≥ 0)]
    have e1 : decide ((-1 : Int) ≥ 0) = false := by decide
    refine ⟨p, s, ?_, ?_, hs.more⟩
    ·rfl
    ·rfl
   ·rw [decide_eq_false ht, decide_eq_true (by omega : tmL 0 (a.fs slot.toNat) ≥ 0)]
    have h4 : tmL 0 (a.fs slot.toNat) + 4 ≤ data.length := by rw [hlen]; omega
    generalize tmL 0 (a.fs slot.toNat) = tm at ht h4 ⊢
    obtain ⟨s1, s2, s3⟩ := slice_ok (by omega) h4 he.b he.y
    have nb := numB_bound s3 (a.bg slot.toNat) (by omega)
    have c0 : decide ((0 : Int) ≤ tm) = true := decide_eq_true (by omega)
    have c1 : decide (tm ≤ tm + 4) = true := decide_eq_true (by omega)
    have c2 : decide (tm + 4 ≤ (data.length : Int)) = true := decide_eq_true (by omega)
    have q1 := G81x0_eq hN s3 (a.bg slot.toNat) (by omega)
    have q2 := G83x0_eq hN s3 (a.bg slot.toNat) (by omega)
    simp only [_root_.cond_true, _root_.cond_false, bnd_eq, Bool.and_self, s1, c0, c1, c2, q1, q2, missing4, Option.isSome_some, getD_some, V72x0x32, F72x0x32, Bool.not_true, V72x0x38, F72x0x38]
    generalize numB ((data.take (tm + 4).toNat).drop tm.toNat) (a.bg slot.toNat) = n at nb ⊢
    by_cases hn : n = 4294967295
    ·subst hn
     exact ⟨p, s, rfl, rfl, hs.more⟩
    ·have e4 : (n != 4294967295) = true := by simpa using hn
     have e5 : (n == 4294967295) = false := by simpa using hn
     rw [e4, e5]
     simp only [_root_.cond_true, _root_.cond_false]
     rw [decide_eq_true (show n ≥ 0 by omega)]
     simp only [_root_.cond_true]
     exact ⟨_, _, rfl, rfl, hs.put (by omega) (by omega)⟩
end
/-! ### Files -/
def errsA : Ab → List D → Int
 | _, [] => 0
 | a, x :: r => bif errE a x != 0 then errE a x else errsA (stepA a x) r
theorem start_wk {p : D} (hp : (List.range 16).all (fun j => !(p.cell (0 + j * 6)).toB && !(zeroS.cell (0 + j * 1)).toB) = true) (hl : (p.cell 96).toI = -1) : Wk p zeroS Ab.start 0 := by
 have h : ∀ j : Nat, j < 16 → (p.cell (0 + j * 6)).toB = false ∧ (zeroS.cell (0 + j * 1)).toB = false := fun j hj => by
  have := List.all_eq_true.1 hp j (List.mem_range.2 hj)
  simpa using this
 exact ⟨⟨fun j hj => (h j hj).1, fun j hj hk => absurd hk (by simp [Ab.start])⟩, ⟨fun j hj => (h j hj).2, fun j hj hk => absurd hk (by simp [Ab.start])⟩, hl, by kernel_rfl, by decide, by decide⟩
theorem start70 : Wk (V70x0 N) zeroS Ab.start 0 := start_wk (by kernel_rfl) (by kernel_rfl)
/-- CheckFile, as a plain function. -/
def fileE (es : List D) : Int := bif decide ((es.length : Int) > 50000) then 3 else errsA Ab.start es
section
variable {es : List D}
theorem check_loopA (hN : maxLen < N) (hes : ∀ x ∈ es, EntD x) (hl : es.length ≤ 50000) : ∀ (m : Nat) (i : Int) (p s : D) (a : Ab), 0 ≤ i → i ≤ es.length → (es.length - i).toNat < m → Wk p s a i →
  L22x0x15 N es es.length m i p (fun p => some (Sum.inl p)) (fun p => some (Sum.inr p)) = some (bif errsA a (es.drop i.toNat) != 0 then .inl (errsA a (es.drop i.toNat)) else .inr ()) ∧
  L23x0x15 N es es.length m i s (fun p => some (Sum.inl p)) (fun p => some (Sum.inr p)) = some (bif errsA a (es.drop i.toNat) != 0 then .inl (errsA a (es.drop i.toNat)) else .inr ()) := by
 intro m
 induction m with
 | zero => intro i p s a _ _ h; omega
 | succ m ih =>
  intro i p s a h0 h1 hm hs
  unfold L22x0x15 L23x0x15 S22x0x15 S23x0x15
  by_cases hi : i < es.length
  ·have he : EntD _ := hes _ (getD_mem (fs := es) h0 hi)
   rw [decide_eq_true hi, inB_of h0 hi, G71x0_eq hN hs.sim he, G73x0_eq hN hs.sim he, err_of hs.pp hs.lp, drop_at (.i 0) h0 hi]
   simp only [_root_.cond_true, bnd_eq, Option.isSome_some, getD_some, errsA]
   cases hz : (errE a (es.getD i.toNat (.i 0)) != 0) with
   | false =>
    have hz' : errE a (es.getD i.toNat (.i 0)) = 0 := by simpa using hz
    obtain ⟨p', s', q1, q2, hs'⟩ := take_abs hN hs he h0 (by omega) hz'
    rw [q1, q2]
    simp only [_root_.cond_false, Option.isSome_some, _root_.cond_true, getD_some, wrapI (x := i + 1) (by omega) (by omega)]
    exact ih (i + 1) p' s' _ (by omega) (by omega) (by omega) hs'
   | true =>
    simp only [_root_.cond_true, hz]
    exact ⟨trivial, trivial⟩
  ·have : i = es.length := by omega
   subst this
   rw [decide_eq_false hi, drop_end (by omega)]
   exact ⟨rfl, rfl⟩
theorem check_fileA (hN : maxLen < N) (hes : ∀ x ∈ es, EntD x) : G22x0 N es = some (fileE es) ∧ G23x0 N es = some (fileE es) := by
 unfold fileE
 by_cases hl : (es.length : Int) > 50000
 ·unfold G22x0 F22x0 G23x0 F23x0
  rw [decide_eq_true hl]; exact ⟨rfl, rfl⟩
 ·have hm : maxLen = 9223372036854775807 := rfl
  obtain ⟨q1, q2⟩ := check_loopA hN hes (by omega) N 0 (V70x0 N) zeroS Ab.start (by omega) (by omega) (by omega) start70
  have k1 : G22x0x15 N es es.length 0 (V70x0 N) = _ := q1
  have k2 : G23x0x15 N es es.length 0 zeroS = _ := q2
  have k3 : G22x0 N es = bnd (G22x0x15 N es es.length 0 (V70x0 N)) (fun y1 => bif inlB y1 then some (inlV y1) else bif (inrQ y1).isSome then some 0 else none) := by
   unfold G22x0 F22x0
   rw [decide_eq_false hl]; rfl
  have k4 : G23x0 N es = bnd (G23x0x15 N es es.length 0 zeroS) (fun y1 => bif inlB y1 then some (inlV y1) else bif (inrQ y1).isSome then some 0 else none) := by
   unfold G23x0 F23x0
   rw [decide_eq_false hl]; rfl
  rw [k3, k4, k1, k2, decide_eq_false hl]
  simp only [show (0 : Int).toNat = 0 from rfl, List.drop_zero, _root_.cond_false]
  cases h : errsA Ab.start es != 0 with
  | true => exact ⟨rfl, rfl⟩
  | false =>
   have : errsA Ab.start es = 0 := by simpa using h
   rw [this]; exact ⟨rfl, rfl⟩
theorem errs_cons {a : Ab} {x : D} {r : List D} (h : errsA a (x :: r) = 0) : errE a x = 0 ∧ errsA (stepA a x) r = 0 := by
 simp only [errsA] at h
 cases hz : (errE a x != 0) with
 | true =>
  rw [hz] at h
  simp only [_root_.cond_true] at h
  rw [h] at hz; simp at hz
 | false =>
  rw [hz] at h
  exact ⟨by simpa using hz, h⟩
theorem fileE_ok (h : fileE es = 0) : es.length ≤ 50000 ∧ errsA Ab.start es = 0 := by
 unfold fileE at h
 by_cases hl : (es.length : Int) > 50000
 ·rw [decide_eq_true hl] at h; exact absurd (show (3 : Int) = 0 from h) (by decide)
 ·rw [decide_eq_false hl] at h; exact ⟨by omega, h⟩
end
end Go.Proofs.Ytnnofignhdijiaa

/-! Plain laws: the bytes of an entry; Write. -/
namespace Go.Proofs.Ytnnofignhdijiaa
open Go Go.AM
set_option maxRecDepth 100000
set_option maxHeartbeats 4000000
set_option linter.unusedVariables false
variable {N : Nat}
/-- A byte of a number. -/
def bt (n i : Int) : D := .i (IntKind.wrap .u8 (n.fdiv (2 ^ (min (IntKind.wrap .i64 (8 * i)).toNat 64))))
def nb2 (n : Int) (big : Bool) : List D := bif big then [bt n 1, bt n 0] else [bt n 0, bt n 1]
def nb4 (n : Int) (big : Bool) : List D := bif big then [bt n 3, bt n 2, bt n 1, bt n 0] else [bt n 0, bt n 1, bt n 2, bt n 3]
theorem fuel (hN : maxLen < N) (j : Nat) (hj : j ≤ 1000) : ∃ k, N = k + j := by
 have hm : maxLen = 9223372036854775807 := rfl
 exact ⟨N - j, by omega⟩
theorem P67_2 (hN : maxLen < N) (n : Int) (big : Bool) : G67x0 N n 2 big = some (nb2 n big) := by
 obtain ⟨k, rfl⟩ := fuel hN 8 (by omega)
 cases big <;> kernel_rfl
theorem P67_4 (hN : maxLen < N) (n : Int) (big : Bool) : G67x0 N n 4 big = some (nb4 n big) := by
 obtain ⟨k, rfl⟩ := fuel hN 8 (by omega)
 cases big <;> kernel_rfl
theorem P69_2 (hN : maxLen < N) (n : Int) (big : Bool) : G69x0 N n 2 big = some (nb2 n big) := by
 obtain ⟨k, rfl⟩ := fuel hN 8 (by omega)
 cases big <;> kernel_rfl
theorem P69_4 (hN : maxLen < N) (n : Int) (big : Bool) : G69x0 N n 4 big = some (nb4 n big) := by
 obtain ⟨k, rfl⟩ := fuel hN 8 (by omega)
 cases big <;> kernel_rfl
/-! ### An entry's bytes -/
def u8 (n : Int) : D := .i (IntKind.wrap .u8 n)
def fldsB : List D → List D
 | [] => []
 | f :: r => u8 (fN f) :: u8 (fS f) :: u8 (fT f) :: fldsB r
def defB (slot : Int) (d : D) : List D :=
 [u8 (64 + slot), .i (bif (d.cell 0).toB then 1 else 0)] ++ nb2 (d.cell 1).toI (d.cell 0).toB ++ [u8 ((d.cell 2).items.length : Int)] ++ fldsB (d.cell 2).items
def entB (kind slot off : Int) (ds data : List D) : List D :=
 bif kind == 2 then u8 slot :: data else bif kind == 3 then u8 (128 + 32 * slot + off) :: data else defB slot (ds.getD 0 (.i 0))
theorem fldsB_len : ∀ fs : List D, (fldsB fs).length = 3 * fs.length
 | [] => rfl
 | f :: r => by simp only [fldsB, List.length_cons, fldsB_len r]; omega
theorem nb2_len (n : Int) (big : Bool) : (nb2 n big).length = 2 := by cases big <;> rfl
theorem nb4_len (n : Int) (big : Bool) : (nb4 n big).length = 4 := by cases big <;> rfl
theorem defB_len (slot : Int) (d : D) : (defB slot d).length = 5 + 3 * (d.cell 2).items.length := by
 unfold defB
 simp only [List.length_append, List.length_cons, List.length_nil, nb2_len, fldsB_len]
theorem P65x0x39 (hN : maxLen < N) {fs l : List D} (hf : fs.length ≤ 255) (hl : l.length ≤ 100) : ∃ b, G65x0x39 N fs fs.length 0 false l = some (b, l ++ fldsB fs) := by
 have hm : maxLen = 9223372036854775807 := rfl
 have key := loop_indE (A := Int × Bool × LD) (X := Option (Bool × LD)) (S := fun x kr => S65x0x39 N fs fs.length x.1 x.2.1 x.2.2 (fun a b c => kr (a, b, c)) (fun p => some p)) (L := fun m x => L65x0x39 N fs fs.length m x.1 x.2.1 x.2.2 (fun p => some p)) (fun m x => rfl)
  (fun x r => ∃ b, r = some (b, x.2.2 ++ fldsB (fs.drop x.1.toNat)))
  (fun x => 0 ≤ x.1 ∧ x.1 ≤ fs.length ∧ (x.2.2.length : Int) ≤ 100 + 3 * x.1) (fun x => (fs.length - x.1).toNat) ?_ N (0, false, l) ⟨by show (0 : Int) ≤ 0; omega, by show (0 : Int) ≤ _; omega, by simp; omega⟩ (by simp; omega)
 ·obtain ⟨b, q⟩ := key
  exact ⟨b, q⟩
 ·rintro ⟨w, b, acc⟩ kr ⟨h2, h3, h4⟩ ih
  simp only at h2 h3 h4 ih ⊢
  unfold S65x0x39
  by_cases hw : w < fs.length
  ·have r1 : decide ((acc.length + 3) * 1 ≤ room) = true := decide_eq_true (by unfold room; omega)
   have r2 : decide (acc.length + 3 ≤ strMax) = true := decide_eq_true (by unfold strMax; omega)
   rw [decide_eq_true hw, inB_of h2 hw, drop_at (.i 0) h2 hw]
   simp only [_root_.cond_true, bnd_eq, r1, r2, Bool.and_self, wrapI (x := w + 1) (by omega) (by omega)]
   obtain ⟨b', q⟩ := ih (w + 1, false, acc ++ [(.i (IntKind.wrap .u8 ((fs.getD w.toNat (.i 0)).cell 0).toI)), (.i (IntKind.wrap .u8 ((fs.getD w.toNat (.i 0)).cell 1).toI)), (.i (IntKind.wrap .u8 ((fs.getD w.toNat (.i 0)).cell 2).toI))]) ⟨by simp only; omega, by simp only; omega, by simp; omega⟩ (by simp only; omega)
   refine ⟨b', q.trans ?_⟩
   simp only [fldsB, List.append_assoc]
   rfl
  ·have : w = fs.length := by omega
   subst this
   rw [decide_eq_false hw, drop_end (by omega)]
   exact ⟨b, by simp [fldsB]⟩
theorem loop_65_68 : @L65x0x39 N = @L68x0x36 N := by kernel_rfl
theorem P65 (hN : maxLen < N) {kind slot off : Int} {ds data : List D} (hs0 : 0 ≤ slot) (hs1 : slot ≤ 15) (ho0 : 0 ≤ off) (ho1 : off ≤ 31) (hk : 1 ≤ kind ∧ kind ≤ 3) (hd : kind = 1 → ds.length = 1 ∧ ((ds.getD 0 (.i 0)).cell 2).items.length ≤ 255) (hl : data.length ≤ 100000) :
  ∃ nl, G65x0 N kind slot off ds data = some (nl, entB kind slot off ds data) ∧ G68x0 N kind slot off ds data = some (nl, entB kind slot off ds data) := by
 have r1 : decide ((1 + data.length) * 1 ≤ room) = true := decide_eq_true (by unfold room; omega)
 have r2 : decide (1 + data.length ≤ strMax) = true := decide_eq_true (by unfold strMax; omega)
 unfold G65x0 F65x0 G68x0 F68x0 entB
 rw [r1, r2]
 by_cases h2 : kind = 2
 ·subst h2; exact ⟨_, rfl, rfl⟩
 ·by_cases h3 : kind = 3
  ·subst h3
   rw [wrapI (x := 32 * slot) (by omega) (by omega), wrapI (x := 128 + 32 * slot) (by omega) (by omega), wrapI (x := 128 + 32 * slot + off) (by omega) (by omega)]
   exact ⟨_, rfl, rfl⟩
  ·have h1 : kind = 1 := by omega
   subst h1
   obtain ⟨d1, d2⟩ := hd rfl
   have i0 : inB 0 ds.length = true := inB_of (by omega) (by omega)
   generalize ds.getD 0 (.i 0) = d at d2 ⊢
   have e29 : G65x0x29 N (d.cell 0).toB [.i (IntKind.wrap .u8 (IntKind.wrap .i64 (64 + slot))), .i 0] = some [u8 (64 + slot), .i (bif (d.cell 0).toB then 1 else 0)] := by
    rw [wrapI (x := 64 + slot) (by omega) (by omega)]
    cases (d.cell 0).toB <;> rfl
   have e29' : G68x0x29 N (d.cell 0).toB [.i (IntKind.wrap .u8 (IntKind.wrap .i64 (64 + slot))), .i 0] = some [u8 (64 + slot), .i (bif (d.cell 0).toB then 1 else 0)] := by
    rw [wrapI (x := 64 + slot) (by omega) (by omega)]
    cases (d.cell 0).toB <;> rfl
   have l2 := nb2_len (d.cell 1).toI (d.cell 0).toB
   have r3 : decide (([u8 (64 + slot), .i (bif (d.cell 0).toB then 1 else 0)].length + (nb2 (d.cell 1).toI (d.cell 0).toB).length) * 1 ≤ room) = true := decide_eq_true (by rw [l2]; unfold room; simp)
   have r4 : decide ([u8 (64 + slot), .i (bif (d.cell 0).toB then 1 else 0)].length + (nb2 (d.cell 1).toI (d.cell 0).toB).length ≤ strMax) = true := decide_eq_true (by rw [l2]; unfold strMax; simp)
   have r5 : decide ((([u8 (64 + slot), .i (bif (d.cell 0).toB then 1 else 0)] ++ nb2 (d.cell 1).toI (d.cell 0).toB).length + 1) * 1 ≤ room) = true := decide_eq_true (by rw [List.length_append, l2]; unfold room; simp)
   have r6 : decide (([u8 (64 + slot), .i (bif (d.cell 0).toB then 1 else 0)] ++ nb2 (d.cell 1).toI (d.cell 0).toB).length + 1 ≤ strMax) = true := decide_eq_true (by rw [List.length_append, l2]; unfold strMax; simp)
   obtain ⟨b, q⟩ := P65x0x39 hN (fs := (d.cell 2).items) (l := [u8 (64 + slot), .i (bif (d.cell 0).toB then 1 else 0)] ++ nb2 (d.cell 1).toI (d.cell 0).toB ++ [.i (IntKind.wrap .u8 ((d.cell 2).items.length : Int))]) d2 (by simp only [List.length_append, l2]; simp)
   have q' : G68x0x36 N (d.cell 2).items ((d.cell 2).items.length : Int) 0 false ([u8 (64 + slot), .i (bif (d.cell 0).toB then 1 else 0)] ++ nb2 (d.cell 1).toI (d.cell 0).toB ++ [.i (IntKind.wrap .u8 ((d.cell 2).items.length : Int))]) = some (b, [u8 (64 + slot), .i (bif (d.cell 0).toB then 1 else 0)] ++ nb2 (d.cell 1).toI (d.cell 0).toB ++ [.i (IntKind.wrap .u8 ((d.cell 2).items.length : Int))] ++ fldsB (d.cell 2).items) := by
    unfold G68x0x36
    rw [← loop_65_68]
    exact q
   have c2 : ((1 : Int) == 2) = false := rfl
   have c3 : ((1 : Int) == 3) = false := rfl
   refine ⟨b, ?_, ?_⟩
   ·simp only [c2, c3, i0, e29, P67_2 hN, _root_.cond_true, _root_.cond_false, bnd_eq, Option.isSome_some, getD_some, r3, r4, r5, r6, Bool.and_self, q]
    rfl
   ·simp only [c2, c3, i0, e29', P69_2 hN, _root_.cond_true, _root_.cond_false, bnd_eq, Option.isSome_some, getD_some, r3, r4, r5, r6, Bool.and_self, q']
    rfl
/-- What a right entry is. -/
theorem ent_ok {a : Ab} {kind slot off : Int} {ds data : List D} (hf : a.kn slot.toNat = true → FldsOk (a.fs slot.toNat)) (h : errC a kind slot off ds data = 0) :
  (1 ≤ kind ∧ kind ≤ 3) ∧ (0 ≤ slot ∧ slot ≤ 15) ∧ (0 ≤ off ∧ off ≤ 31) ∧ (kind = 1 → ds.length = 1 ∧ ((ds.getD 0 (.i 0)).cell 2).items.length ≤ 255) ∧ data.length ≤ 65025 := by
 have hE := entE_ok h
 have hin : inI slot 0 (bif kind == 3 then 3 else 15) = true ∧ inI off 0 (bif kind == 3 then 31 else 0) = true ∧ (kind = 1 → data.length = 0) := by
  unfold errC entE at h
  cases h1 : inI kind 1 3 with
  | false => rw [h1] at h; exact absurd (show (7 : Int) = 0 from h) (by decide)
  | true =>
  cases h2 : inI slot 0 (bif kind == 3 then 3 else 15) with
  | false => rw [h1, h2] at h; exact absurd (show (9 : Int) = 0 from h) (by decide)
  | true =>
  cases h3 : inI off 0 (bif kind == 3 then 31 else 0) with
  | false => rw [h1, h2, h3] at h; exact absurd (show (9 : Int) = 0 from h) (by decide)
  | true =>
   refine ⟨rfl, rfl, fun hk => ?_⟩
   subst hk
   rw [h1, h2, h3] at h
   cases h4 : ((ds.length : Int) != 1) || decide ((data.length : Int) > 0) with
   | true => simp only [Bool.not_true, _root_.cond_false, Bool.or_self, beq_self_eq_true, _root_.cond_true, h4] at h; exact absurd h (by decide)
   | false => simp at h4; simp [h4.2]
 obtain ⟨n1, n2, n3⟩ := hin
 have m1 : 0 ≤ slot ∧ slot ≤ 15 := by cases hk : kind == 3 <;> rw [hk] at n1 <;> unfold inI at n1 <;> simp at n1 <;> omega
 have m2 : 0 ≤ off ∧ off ≤ 31 := by cases hk : kind == 3 <;> rw [hk] at n2 <;> unfold inI at n2 <;> simp at n2 <;> omega
 refine ⟨hE.k, m1, m2, fun hk => ⟨(hE.d hk).1, (defE_ok (hE.d hk).2).len⟩, ?_⟩
 by_cases hk : kind = 1
 ·rw [n3 hk]; omega
 ·have := hf (hE.n hk).1
  have sb := szL_bound this.size
  have := this.len
  by_cases hk3 : kind = 3
  ·have := (hE.h hk3).2.2.2.2; omega
  ·have := hE.t (by have := hE.k; omega); omega
/-- All slots have right definitions. -/
def OkA (a : Ab) : Prop := ∀ j, a.kn j = true → FldsOk (a.fs j)
theorem OkA.step {a : Ab} (h : OkA a) {x : D} (hx : errE a x = 0) : OkA (stepA a x) := by
 unfold stepA stepD
 cases hk : kX x == 1 with
 | true =>
  have hE := entE_ok hx
  have hf := defE_ok (hE.d (by simpa using hk)).2
  intro j hj
  simp only [_root_.cond_true, upA] at hj ⊢
  by_cases e : j = (sX x).toNat
  ·simp only [if_pos e]; exact hf
  ·simp only [if_neg e] at hj ⊢; exact h j hj
 | false => exact h
theorem OkA.start : OkA Ab.start := fun j hj => by simp [Ab.start] at hj
abbrev entX (x : D) : List D := entB (kX x) (sX x) (oX x) (dX x) (bX x)
def bodyB : List D → List D
 | [] => []
 | x :: r => entX x ++ bodyB r
theorem entX_len {a : Ab} (ha : OkA a) {x : D} (h : errE a x = 0) : (entX x).length ≤ 70000 ∧ 1 ≤ (entX x).length := by
 obtain ⟨h1, h2, h3, h4, h5⟩ := ent_ok (ha _) h
 unfold entX entB
 have : kX x = 1 ∨ kX x = 2 ∨ kX x = 3 := by omega
 rcases this with e | e | e
 ·have := (h4 e).2
  rw [e, show ((1 : Int) == 2) = false from rfl, show ((1 : Int) == 3) = false from rfl]
  simp only [_root_.cond_false, defB_len]; omega
 ·rw [e, show ((2 : Int) == 2) = true from rfl]
  simp only [_root_.cond_true, List.length_cons]; omega
 ·rw [e, show ((3 : Int) == 2) = false from rfl, show ((3 : Int) == 3) = true from rfl]
  simp only [_root_.cond_true, _root_.cond_false, List.length_cons]; omega
section
variable {es : List D}
theorem write_loop (hN : maxLen < N) (hes : ∀ x ∈ es, EntD x) (hl : es.length ≤ 50000) : ∀ (m : Nat) (i : Int) (a : Ab) (b : Bool) (acc : List D), OkA a → 0 ≤ i → i ≤ es.length → (es.length - i).toNat < m → errsA a (es.drop i.toNat) = 0 → (acc.length : Int) ≤ 70000 * i →
  ∃ b', L20x0x18 N es es.length m i b acc (fun p => some p) = some (b', acc ++ bodyB (es.drop i.toNat)) ∧ L21x0x18 N es es.length m i b acc (fun p => some p) = some (b', acc ++ bodyB (es.drop i.toNat)) := by
 intro m
 induction m with
 | zero => intro i a b acc _ _ _ h; omega
 | succ m ih =>
  intro i a b acc ha h0 h1 hm he hacc
  unfold L20x0x18 L21x0x18 S20x0x18 S21x0x18
  by_cases hi : i < es.length
  ·rw [drop_at (.i 0) h0 hi] at he ⊢
   obtain ⟨e1, e2⟩ := errs_cons he
   obtain ⟨h1', h2, h3, h4, h5⟩ := ent_ok (ha _) e1
   obtain ⟨nl, q1, q2⟩ := P65 (N := N) (kind := kX (es.getD i.toNat (.i 0))) (slot := sX (es.getD i.toNat (.i 0))) (off := oX (es.getD i.toNat (.i 0))) (ds := dX (es.getD i.toNat (.i 0))) (data := bX (es.getD i.toNat (.i 0))) hN h2.1 h2.2 h3.1 h3.2 h1' h4 (by omega)
   have hb := entX_len ha e1
   have r1 : decide ((acc.length + (entX (es.getD i.toNat (.i 0))).length) * 1 ≤ room) = true := decide_eq_true (by unfold room; omega)
   have r2 : decide (acc.length + (entX (es.getD i.toNat (.i 0))).length ≤ strMax) = true := decide_eq_true (by unfold strMax; omega)
   rw [decide_eq_true hi, inB_of h0 hi]
   simp only [_root_.cond_true, bnd_eq, q1, q2, Option.isSome_some, getD_some, r1, r2, Bool.and_self, wrapI (x := i + 1) (by omega) (by omega)]
   obtain ⟨b', z1, z2⟩ := ih (i + 1) _ ((entX (es.getD i.toNat (.i 0))).isEmpty && b) (acc ++ entX (es.getD i.toNat (.i 0))) (ha.step e1) (by omega) (by omega) (by omega) e2 (by simp only [List.length_append]; omega)
   refine ⟨b', ?_, ?_⟩
   ·refine z1.trans ?_
    rw [List.append_assoc]; rfl
   ·refine z2.trans ?_
    rw [List.append_assoc]; rfl
  ·have : i = es.length := by omega
   subst this
   rw [decide_eq_false hi, drop_end (by omega)]
   exact ⟨b, by simp [bodyB], by simp [bodyB]⟩
theorem body_len : ∀ {es : List D} {a : Ab}, OkA a → errsA a es = 0 → (bodyB es).length ≤ 70000 * es.length
 | [], _, _, _ => by simp [bodyB]
 | x :: r, a, ha, h => by
  obtain ⟨e1, e2⟩ := errs_cons h
  have := body_len (ha.step e1) e2
  have := entX_len ha e1
  simp only [bodyB, List.length_append, List.length_cons]
  omega
end
/-! ### Write -/
def fileB (es : List D) : List D :=
 [.i 72, .i 65, .i 82, .i 49] ++ nb4 ((bodyB es).length : Int) true ++ bodyB es
/-- Write, as a plain function. -/
def allB (es : List D) : List D := fileB es ++ nb4 (sumL 1 (fileB es)) true
def writeE (es : List D) : Int := bif fileE es != 0 then fileE es else bif decide (((allB es).length : Int) > 4000000) then 3 else 0
end Go.Proofs.Ytnnofignhdijiaa

/-! Plain laws: slices.Concat; Write; what the law of files compares. -/
namespace Go.Proofs.Ytnnofignhdijiaa
open Go Go.AM
set_option maxRecDepth 100000
set_option maxHeartbeats 4000000
set_option linter.unusedVariables false
variable {N : Nat}
def catL : List D → List D
 | [] => []
 | x :: r => x.items ++ catL r
section
variable {ps : List D}
theorem catL_drop {w : Int} (h0 : 0 ≤ w) (h1 : w < ps.length) : (catL (ps.drop w.toNat)).length = (ps.getD w.toNat (.i 0)).items.length + (catL (ps.drop (w + 1).toNat)).length := by
 rw [drop_at (.i 0) h0 h1]; simp [catL]
theorem concat_eq (hN : maxLen < N) (hp : ps.length ≤ 1000) (hc : (catL ps).length ≤ 10000000000) : ∃ b, G66x0 N ps = some (b, catL ps) := by
 have hm : maxLen = 9223372036854775807 := rfl
 have k1 : G66x0x9 N ps ps.length 0 0 = some ((catL ps).length : Int) := by
  have key := loop_ind (A := Int × Int) (X := Option Int) (S := fun x kr => S66x0x9 N ps ps.length x.1 x.2 (fun a b => kr (a, b)) (fun p => some p)) (L := fun m x => L66x0x9 N ps ps.length m x.1 x.2 (fun p => some p)) (fun m x => rfl)
   (fun x => some (x.1 + ((catL (ps.drop x.2.toNat)).length : Int))) (fun x => 0 ≤ x.2 ∧ x.2 ≤ ps.length ∧ 0 ≤ x.1 ∧ x.1 + ((catL (ps.drop x.2.toNat)).length : Int) ≤ 10000000000) (fun x => (ps.length - x.2).toNat) ?_ N (0, 0) ⟨by decide, by show (0 : Int) ≤ _; omega, by decide, by simp; omega⟩ (by simp; omega)
  ·refine Eq.trans key ?_; simp
  ·rintro ⟨a, w⟩ kr ⟨h0, h1, h2, h3⟩ ih
   simp only at h0 h1 h2 h3 ih ⊢
   unfold S66x0x9
   by_cases hw : w < ps.length
   ·have := catL_drop h0 hw
    rw [decide_eq_true hw, inB_of h0 hw, wrapI (x := a + _) (by omega) (by omega), wrapI (x := w + 1) (by omega) (by omega)]
    simp only [_root_.cond_true, bnd_eq]
    rw [decide_eq_false (show ¬ a + ((ps.getD w.toNat (.i 0)).items.length : Int) < 0 by omega)]
    simp only [_root_.cond_false]
    rw [ih (_, w + 1) ⟨by simp only; omega, by simp only; omega, by simp only; omega, by simp only; omega⟩ (by simp only; omega)]
    simp only; congr 1; omega
   ·have : w = ps.length := by omega
    subst this
    rw [decide_eq_false hw, drop_end (by omega)]
    simp [catL]
 have k3 : ∀ b0 : Bool, ∃ b, G66x0x33 N ps ps.length 0 b0 [] = some (b, catL ps) := by
  intro b0
  have key := loop_indE (A := Int × Bool × LD) (X := Option (Bool × LD)) (S := fun x kr => S66x0x33 N ps ps.length x.1 x.2.1 x.2.2 (fun a b c => kr (a, b, c)) (fun p => some p)) (L := fun m x => L66x0x33 N ps ps.length m x.1 x.2.1 x.2.2 (fun p => some p)) (fun m x => rfl)
   (fun x r => ∃ b, r = some (b, x.2.2 ++ catL (ps.drop x.1.toNat))) (fun x => 0 ≤ x.1 ∧ x.1 ≤ ps.length ∧ (x.2.2.length : Int) + ((catL (ps.drop x.1.toNat)).length : Int) ≤ 10000000000) (fun x => (ps.length - x.1).toNat) ?_ N (0, b0, []) ⟨by show (0 : Int) ≤ 0; omega, by show (0 : Int) ≤ _; omega, by simp; omega⟩ (by simp; omega)
  ·obtain ⟨b, q⟩ := key; exact ⟨b, q⟩
  ·rintro ⟨w, b, acc⟩ kr ⟨h0, h1, h2⟩ ih
   simp only at h0 h1 h2 ih ⊢
   unfold S66x0x33
   by_cases hw : w < ps.length
   ·have := catL_drop h0 hw
    have r1 : decide ((acc.length + (ps.getD w.toNat (.i 0)).items.length) * 1 ≤ room) = true := decide_eq_true (by unfold room; omega)
    have r2 : decide (acc.length + (ps.getD w.toNat (.i 0)).items.length ≤ strMax) = true := decide_eq_true (by unfold strMax; omega)
    rw [decide_eq_true hw, inB_of h0 hw, r1, r2, wrapI (x := w + 1) (by omega) (by omega), drop_at (.i 0) h0 hw]
    simp only [_root_.cond_true, Bool.and_self]
    obtain ⟨b', q⟩ := ih (w + 1, (ps.getD w.toNat (.i 0)).items.isEmpty && b, acc ++ (ps.getD w.toNat (.i 0)).items) ⟨by simp only; omega, by simp only; omega, by simp only [List.length_append]; omega⟩ (by simp only; omega)
    exact ⟨b', q.trans (by simp [catL])⟩
   ·have : w = ps.length := by omega
    subst this
    rw [decide_eq_false hw, drop_end (by omega)]
    exact ⟨b, by simp [catL]⟩
 have k2 : ∃ r, G66x0x28 N ((catL ps).length : Int) = some r := by
  unfold G66x0x28 F66x0x28 G120x0 F120x0 G120x0x17 F120x0x17
  rw [decide_eq_false (show ¬ ((catL ps).length : Int) < 0 by omega), Int.sub_zero, wrapI (by omega) (by omega)]
  by_cases h0 : ((catL ps).length : Int) > 0
  ·have r1 : decide (((catL ps).length : Int).toNat * 1 ≤ room) = true := decide_eq_true (by unfold room; omega)
   have r2 : decide (((catL ps).length : Int).toNat ≤ strMax) = true := decide_eq_true (by unfold strMax; omega)
   rw [decide_eq_true h0, r1, r2, decide_eq_true (show (0 : Int) ≤ ((catL ps).length : Int) by omega), decide_eq_true (show (0 : Int) ≤ ((List.replicate ((catL ps).length : Int).toNat (D.i 0)).length : Int) by omega)]
   exact ⟨_, rfl⟩
  ·rw [decide_eq_false h0]
   exact ⟨_, rfl⟩
 obtain ⟨r, k2⟩ := k2
 unfold G66x0 F66x0
 rw [k1]
 simp only [bnd_eq, Option.isSome_some, _root_.cond_true, getD_some, k2]
 cases r with
 | inl b0 =>
  obtain ⟨b, q⟩ := k3 b0
  exact ⟨b, by simp [inlB, inlV, q]⟩
 | inr u =>
  obtain ⟨b, q⟩ := k3 true
  exact ⟨b, by simp [inlB, inrQ, q]⟩
end
theorem bt_ok (n i : Int) : 0 ≤ (bt n i).toI ∧ (bt n i).toI ≤ 255 := by
 unfold bt D.toI
 simp only [IntKind.wrap_u8]
 omega
theorem u8_ok (n : Int) : 0 ≤ (u8 n).toI ∧ (u8 n).toI ≤ 255 := by
 unfold u8 D.toI
 simp only [IntKind.wrap_u8]
 omega
theorem BytesOk.append {a b : List D} (h1 : BytesOk a) (h2 : BytesOk b) : BytesOk (a ++ b) := fun x hx => by
 rcases List.mem_append.1 hx with h | h
 ·exact h1 x h
 ·exact h2 x h
theorem BytesOk.cons {x : D} {b : List D} (h1 : 0 ≤ x.toI ∧ x.toI ≤ 255) (h2 : BytesOk b) : BytesOk (x :: b) := fun y hy => by
 rcases List.mem_cons.1 hy with rfl | h
 ·exact h1
 ·exact h2 y h
theorem BytesOk.nil : BytesOk [] := fun x hx => by simp at hx
theorem nb4_ok (n : Int) (big : Bool) : BytesOk (nb4 n big) := by
 cases big <;> exact .cons (bt_ok _ _) (.cons (bt_ok _ _) (.cons (bt_ok _ _) (.cons (bt_ok _ _) .nil)))
theorem nb2_ok (n : Int) (big : Bool) : BytesOk (nb2 n big) := by
 cases big <;> exact .cons (bt_ok _ _) (.cons (bt_ok _ _) .nil)
theorem fldsB_ok : ∀ fs : List D, BytesOk (fldsB fs)
 | [] => .nil
 | f :: r => .cons (u8_ok _) (.cons (u8_ok _) (.cons (u8_ok _) (fldsB_ok r)))
theorem defB_ok (slot : Int) (d : D) : BytesOk (defB slot d) := by
 unfold defB
 refine BytesOk.append (BytesOk.append (BytesOk.append (.cons (u8_ok _) (.cons ?_ .nil)) (nb2_ok _ _)) (.cons (u8_ok _) .nil)) (fldsB_ok _)
 cases (d.cell 0).toB <;> exact ⟨by decide, by decide⟩
theorem entX_ok {x : D} (h : EntD x) : BytesOk (entX x) := by
 unfold entX entB
 cases kX x == 2 with
 | true => exact .cons (u8_ok _) h.y
 | false =>
  cases kX x == 3 with
  | true => exact .cons (u8_ok _) h.y
  | false => exact defB_ok _ _
theorem bodyB_ok : ∀ {es : List D}, (∀ x ∈ es, EntD x) → BytesOk (bodyB es)
 | [], _ => .nil
 | x :: r, h => BytesOk.append (entX_ok (h x (by simp))) (bodyB_ok fun y hy => h y (by simp [hy]))
section
variable {es : List D}
theorem fileB_ok (h : ∀ x ∈ es, EntD x) : BytesOk (fileB es) :=
 BytesOk.append (BytesOk.append (.cons ⟨by decide, by decide⟩ (.cons ⟨by decide, by decide⟩ (.cons ⟨by decide, by decide⟩ (.cons ⟨by decide, by decide⟩ .nil)))) (nb4_ok _ _)) (bodyB_ok h)
theorem fileB_len : (fileB es).length = 8 + (bodyB es).length := by
 unfold fileB; simp only [List.length_append, nb4_len, List.length_cons, List.length_nil]
theorem allB_len : (allB es).length = 12 + (bodyB es).length := by
 unfold allB; rw [List.length_append, fileB_len, nb4_len]; omega
/-- What Write writes. -/
def writeB (es : List D) : List D := bif writeE es != 0 then [] else allB es
theorem write_eq (hN : maxLen < N) (hes : ∀ x ∈ es, EntD x) : ∃ nl nl', G20x0 N es = some (nl, writeB es, writeE es) ∧ G21x0 N es = some (nl', writeB es, writeE es) := by
 have hm : maxLen = 9223372036854775807 := rfl
 obtain ⟨c1, c2⟩ := check_fileA (N := N) hN hes
 unfold G20x0 F20x0 G21x0 F21x0 writeB writeE
 rw [c1, c2]
 simp only [bnd_eq, Option.isSome_some, _root_.cond_true, getD_some]
 cases hc : fileE es != 0 with
 | true => simp only [_root_.cond_true, hc]; exact ⟨_, _, rfl, rfl⟩
 | false =>
  obtain ⟨hl, he⟩ := fileE_ok (by simpa using hc)
  obtain ⟨b, z1, z2⟩ := write_loop hN hes hl N 0 Ab.start true [] OkA.start (by omega) (by omega) (by omega) (by simpa using he) (by simp)
  have y1 : G20x0x18 N es es.length 0 true [] = some (b, bodyB es) := by unfold G20x0x18; simpa using z1
  have y2 : G21x0x18 N es es.length 0 true [] = some (b, bodyB es) := by unfold G21x0x18; simpa using z2
  have hbl := body_len OkA.start he
  have l4 := nb4_len ((bodyB es).length : Int) true
  obtain ⟨b3, k3⟩ := concat_eq (N := N) (ps := [.l false [.i 72, .i 65, .i 82, .i 49], .l false (nb4 ((bodyB es).length : Int) true), .l b (bodyB es)]) hN (by simp) (by simp only [catL, D.items, List.length_append, List.length_nil, List.length_cons, l4]; omega)
  have ec : catL [.l false [.i 72, .i 65, .i 82, .i 49], .l false (nb4 ((bodyB es).length : Int) true), .l b (bodyB es)] = fileB es := by
   simp only [catL, D.items, fileB, List.append_assoc, List.append_nil]
  rw [ec] at k3
  have fl := fileB_len (es := es)
  have hs := G39x0_eq hN (fileB_ok hes) (by omega)
  have hs' := G40x0_eq hN (fileB_ok hes) (by omega)
  have al := allB_len (es := es)
  have l5 := nb4_len (sumL 1 (fileB es)) true
  have r1 : decide (((fileB es).length + (nb4 (sumL 1 (fileB es)) true).length) * 1 ≤ room) = true := decide_eq_true (by unfold room; omega)
  have r2 : decide ((fileB es).length + (nb4 (sumL 1 (fileB es)) true).length ≤ strMax) = true := decide_eq_true (by unfold strMax; omega)
  have r3 : decide ((4 + (nb4 ((bodyB es).length : Int) true).length) * 1 ≤ room) = true := decide_eq_true (by unfold room; omega)
  have r4 : decide (4 + (nb4 ((bodyB es).length : Int) true).length ≤ strMax) = true := decide_eq_true (by unfold strMax; omega)
  have r5 : decide (((([.i 72, .i 65, .i 82, .i 49] : List D) ++ nb4 ((bodyB es).length : Int) true).length + (bodyB es).length) * 1 ≤ room) = true := decide_eq_true (by simp only [List.length_append, l4, List.length_cons, List.length_nil]; unfold room; omega)
  have r6 : decide ((([.i 72, .i 65, .i 82, .i 49] : List D) ++ nb4 ((bodyB es).length : Int) true).length + (bodyB es).length ≤ strMax) = true := decide_eq_true (by simp only [List.length_append, l4, List.length_cons, List.length_nil]; unfold strMax; omega)
  have ef : [.i 72, .i 65, .i 82, .i 49] ++ nb4 ((bodyB es).length : Int) true ++ bodyB es = fileB es := rfl
  have ea : fileB es ++ nb4 (sumL 1 (fileB es)) true = allB es := rfl
  simp only [_root_.cond_false, y1, y2, Option.isSome_some, _root_.cond_true, getD_some, P67_4 hN, P69_4 hN, k3, r3, r4, r5, r6, ef, hs, hs', r1, r2, Bool.and_self, ea]
  cases h4 : decide (((allB es).length : Int) > 4000000) with
  | true => exact ⟨_, _, rfl, rfl⟩
  | false => exact ⟨_, _, rfl, rfl⟩
end
end Go.Proofs.Ytnnofignhdijiaa

/-! Plain laws: the times, the places. -/
namespace Go.Proofs.Ytnnofignhdijiaa
open Go Go.AM
set_option maxRecDepth 100000
set_option maxHeartbeats 4000000
set_option linter.unusedVariables false
variable {N : Nat}
/-- What the reference keeps of an entry's definition. -/
def defOk (a : Ab) (x d : D) : Prop := (kX x = 1 → d.items = []) ∧ (kX x ≠ 1 → ∃ nl, d.items = [.a [.b (a.bg (sX x).toNat), .i (a.gl (sX x).toNat), .l nl (a.fs (sX x).toNat)]])
def PlL : Ab → List D → List D → Prop
 | _, [], [] => True
 | a, x :: r, d :: ds => defOk a x d ∧ PlL (stepA a x) r ds
 | _, _, _ => False
theorem PlL.len : ∀ {es ds : List D} {a : Ab}, PlL a es ds → ds.length = es.length
 | [], [], _, _ => rfl
 | x :: r, d :: ds, a, h => by simp [PlL.len h.2]
 | [], _ :: _, _, h => h.elim
 | _ :: _, [], _, h => h.elim
section
variable {es : List D}
end
end Go.Proofs.Ytnnofignhdijiaa

/-! Plain laws: entries with the same content. -/
namespace Go.Proofs.Ytnnofignhdijiaa
open Go Go.AM
set_option maxRecDepth 100000
set_option maxHeartbeats 4000000
set_option linter.unusedVariables false
variable {N : Nat}
def nDef (d : D) : D := .a [.b (d.cell 0).toB, .i (d.cell 1).toI, .l false (d.cell 2).items]
/-- The same content (nil slices apart). -/
structure EqE (x y : D) : Prop where
 k : kX x = kX y
 s : sX x = sX y
 o : oX x = oX y
 d : (dX x).map nDef = (dX y).map nDef
 b : bX x = bX y
theorem EqE.refl (x : D) : EqE x x := ⟨rfl, rfl, rfl, rfl, rfl⟩
theorem EqE.symm {x y : D} (h : EqE x y) : EqE y x := ⟨h.k.symm, h.s.symm, h.o.symm, h.d.symm, h.b.symm⟩
theorem nDef_inj {d d' : D} (h : nDef d = nDef d') : (d.cell 0).toB = (d'.cell 0).toB ∧ (d.cell 1).toI = (d'.cell 1).toI ∧ (d.cell 2).items = (d'.cell 2).items := by
 unfold nDef at h
 simp only [D.a.injEq, List.cons.injEq, D.b.injEq, D.i.injEq, D.l.injEq, and_true, true_and] at h
 exact h
theorem defs_eq {ds ds' : List D} (h : ds.map nDef = ds'.map nDef) : ds.length = ds'.length ∧ ((ds.getD 0 (.i 0)).cell 0).toB = ((ds'.getD 0 (.i 0)).cell 0).toB ∧ ((ds.getD 0 (.i 0)).cell 1).toI = ((ds'.getD 0 (.i 0)).cell 1).toI ∧ ((ds.getD 0 (.i 0)).cell 2).items = ((ds'.getD 0 (.i 0)).cell 2).items := by
 have hl : ds.length = ds'.length := by have := congrArg List.length h; simpa using this
 refine ⟨hl, ?_⟩
 match ds, ds', h, hl with
 | [], [], _, _ => exact ⟨rfl, rfl, rfl⟩
 | d :: _, d' :: _, h, _ =>
  simp only [List.map_cons, List.cons.injEq] at h
  exact nDef_inj h.1
 | [], _ :: _, _, hl => simp at hl
 | _ :: _, [], _, hl => simp at hl
theorem EqE.err {x y : D} (h : EqE x y) (a : Ab) : errE a x = errE a y := by
 obtain ⟨l, d0, d1, d2⟩ := defs_eq h.d
 unfold errE errC entE
 rw [h.k, h.s, h.o, h.b, l, d1, d2]
theorem EqE.time {x y : D} (h : EqE x y) (a : Ab) : timeE a x = timeE a y := by
 unfold timeE
 rw [h.k, h.s, h.o, h.b]
theorem EqE.step {x y : D} (h : EqE x y) (a : Ab) : stepA a x = stepA a y := by
 obtain ⟨l, d0, d1, d2⟩ := defs_eq h.d
 unfold stepA stepD
 rw [h.k, h.s, h.o, h.b, d0, d1, d2]
theorem All2.errs {xs ys : List D} (h : All2 EqE xs ys) (a : Ab) : errsA a xs = errsA a ys := by
 induction xs generalizing ys a with
 | nil => cases ys with
  | nil => rfl
  | cons => exact h.elim
 | cons x xs ih => cases ys with
  | nil => exact h.elim
  | cons y ys => simp only [errsA]; rw [h.1.err, h.1.step, ih h.2]
theorem All2.fileE {xs ys : List D} (h : All2 EqE xs ys) : Proofs.Ytnnofignhdijiaa.fileE xs = Proofs.Ytnnofignhdijiaa.fileE ys := by
 unfold Proofs.Ytnnofignhdijiaa.fileE
 rw [AM.All2.length h, All2.errs h]
/-! ### The law's comparison -/
theorem zipAll_true2 : ∀ {xs ys : List D}, xs.length = ys.length → zipAll (fun _ _ => true) xs ys = true
 | [], [], _ => rfl
 | x :: r, y :: s, h => by simp only [zipAll, Bool.true_and]; exact zipAll_true2 (by simpa using h)
 | [], _ :: _, h => by simp at h
 | _ :: _, [], h => by simp at h
theorem getD_all2 {R : D → D → Prop} {xs ys : List D} (h : All2 R xs ys) {w : Int} (hw : inB w xs.length = true) : R (xs.getD w.toNat (.i 0)) (ys.getD w.toNat (.i 0)) := by
 unfold inB at hw
 simp at hw
 have hl := AM.All2.length h
 have h1 : w.toNat < xs.length := by omega
 rw [List.getD_eq_getElem?_getD, List.getD_eq_getElem?_getD, List.getElem?_eq_getElem h1, List.getElem?_eq_getElem (by omega : w.toNat < ys.length)]
 exact h.get2 (List.getElem?_eq_getElem h1) (List.getElem?_eq_getElem _)
theorem same_ind {R : D → D → Prop} {xs ys : List D} (hr : All2 R xs ys) {S : Int → (Int → Option (Sum Unit Unit)) → Option (Sum Unit Unit)} {L : Nat → Int → Option (Sum Unit Unit)} (hL : ∀ m a, L (m + 1) a = S a (L m)) (hlen : xs.length ≤ maxLen)
  (hend : ∀ kr, S xs.length kr = some (.inr ()))
  (hstep : ∀ (w : Int) (kr : Int → Option (Sum Unit Unit)), decide (w < xs.length) = true → inB w xs.length = true → inB w ys.length = true → xs.getD w.toNat (.i 0) ∈ xs → R (xs.getD w.toNat (.i 0)) (ys.getD w.toNat (.i 0)) → S w kr = kr (IntKind.wrap .i64 (w + 1)))
  (hN : maxLen < N) : L N 0 = some (.inr ()) := by
 have := zip_ind (xs := xs) (ys := ys) (fun _ _ => true) hL hlen (AM.All2.length hr) hend (fun w kr h1 h2 h3 => by rw [hstep w kr h1 h2 h3 (inB_mem h2) (getD_all2 hr h2)]; rfl) hN
 rw [this, zipAll_true2 (AM.All2.length hr)]
 rfl
theorem map_all2 {xs ys : List D} (h : xs.map nDef = ys.map nDef) : All2 (fun d d' => nDef d = nDef d') xs ys := by
 have hl : xs.length = ys.length := by have := congrArg List.length h; simpa using this
 refine .of_get hl fun j x y hx hy => ?_
 have := congrArg (fun l => l[j]?) h
 simp only [List.getElem?_map, hx, hy, Option.map_some, Option.some.injEq] at this
 exact this
section
variable {xs ys : List D}
theorem G103_same (hN : maxLen < N) (h : xs.map nDef = ys.map nDef) (hl : xs.length ≤ maxLen) (hf : ∀ x ∈ xs, (x.cell 2).items.length ≤ maxLen) : G103x0 N xs ys = some true := by
 have hle : xs.length = ys.length := by have := congrArg List.length h; simpa using this
 have k : G103x0x12 N ys xs xs.length 0 = some (.inr ()) := by
  refine same_ind (map_all2 h) (S := fun w kr => S103x0x12 N ys xs xs.length w kr _ _) (L := fun m w => L103x0x12 N ys xs xs.length m w _ _) (fun m w => rfl) hl (fun kr => by simp [S103x0x12]) (fun w kr h1 h2 h3 h4 h5 => ?_) hN
  obtain ⟨e0, e1, e2⟩ := nDef_inj h5
  unfold S103x0x12
  rw [h1, h2, h3, ← e0, ← e1, ← e2, G104_refl hN (hf _ h4)]
  simp [bnd_eq]
 unfold G103x0 F103x0
 rw [← hle, len_self, k]; rfl
theorem G48_same (hN : maxLen < N) {x y : D} (h : EqE x y) (he : EntD x) : G48x0 N (kX x) (sX x) (oX x) (dX x) (bX x) (kX y) (sX y) (oX y) (dX y) (bX y) = some true := by
 unfold G48x0 F48x0 G48x0x4 F48x0x4
 rw [← h.k, ← h.s, ← h.o, ← h.b, G103_same hN h.d he.d he.f, G25_refl hN he.b]
 simp [bnd_eq]
theorem G28_same (hN : maxLen < N) (h : All2 EqE xs ys) (he : ∀ x ∈ xs, EntD x) (hl : xs.length ≤ maxLen) : G28x0 N xs ys = some true := by
 have hle := AM.All2.length h
 have k : G77x0x12 N ys xs xs.length 0 = some (.inr ()) := by
  refine same_ind h (S := fun w kr => S77x0x12 N ys xs xs.length w kr _ _) (L := fun m w => L77x0x12 N ys xs xs.length m w _ _) (fun m w => rfl) hl (fun kr => by simp [S77x0x12]) (fun w kr h1 h2 h3 h4 h5 => ?_) hN
  unfold S77x0x12
  rw [h1, h2, h3, G48_same hN h5 (he _ h4)]
  simp [bnd_eq]
 unfold G28x0 F28x0 G77x0 F77x0
 rw [← hle, len_self, k]; rfl
end
end Go.Proofs.Ytnnofignhdijiaa

/-! Plain laws: a law's file, typed. -/
namespace Go.Proofs.Ytnnofignhdijiaa
open Go Go.AM
set_option maxRecDepth 100000
set_option maxHeartbeats 4000000
set_option linter.unusedVariables false
theorem kinds33 : kinds Try.prog 33 = [.sl 53] := by kernel_rfl
theorem kinds53 : kinds Try.prog 53 = [.int .i64, .int .i64, .int .i64, .sl 103, .sl 5] := by kernel_rfl
theorem kinds103 : kinds Try.prog 103 = [.bool, .int .i64, .sl 146] := by kernel_rfl
theorem kinds146 : kinds Try.prog 146 = [.int .i64, .int .i64, .int .i64] := by kernel_rfl
theorem kinds5' : kinds Try.prog 5 = [.int .u8] := by kernel_rfl
/-- An int of 64 bits. -/
def In64 (i : Int) : Prop := -9223372036854775808 ≤ i ∧ i ≤ 9223372036854775807
/-- A field's definition. -/
def FldT (f : D) : Prop := ∃ a b c, f = .a [.i a, .i b, .i c] ∧ In64 a ∧ In64 b ∧ In64 c
def DefT (d : D) : Prop := ∃ big g nl fs, d = .a [.b big, .i g, .l nl fs] ∧ In64 g ∧ (nl = true → fs = []) ∧ fs.length ≤ maxLen ∧ ∀ f ∈ fs, FldT f
def ByteT (x : D) : Prop := ∃ n, x = .i n ∧ 0 ≤ n ∧ n ≤ 255
def EntT (x : D) : Prop := ∃ kind slot off dn ds bn data, x = .a [.i kind, .i slot, .i off, .l dn ds, .l bn data] ∧ In64 kind ∧ In64 slot ∧ In64 off ∧ (dn = true → ds = []) ∧ (bn = true → data = []) ∧ ds.length ≤ maxLen ∧ data.length ≤ maxLen ∧ (∀ d ∈ ds, DefT d) ∧ ∀ y ∈ data, ByteT y
theorem wf64 {i : Int} (h : (Lit.int .i64 i).wf = true) : In64 i := by
 simp only [Lit.wf, Bool.and_eq_true, decide_eq_true_eq] at h
 exact h
theorem byteT_ok {m : Nat} {x : D} (h : TyEl Try.prog (TyK Try.prog (m + 1)) 5 x) : ByteT x := by
 unfold TyEl at h
 have : isAggB Try.prog 5 = false := by kernel_rfl
 rw [if_neg (by rw [this]; simp), kinds5'] at h
 obtain ⟨k, hk, h⟩ := h
 simp only [List.cons.injEq, and_true] at hk
 subst hk
 obtain ⟨i, rfl, hl⟩ := h
 simp only [Lit.wf, Bool.and_eq_true, decide_eq_true_eq] at hl
 exact ⟨i, rfl, hl⟩
theorem fldT_ok {m : Nat} {x : D} (h : TyEl Try.prog (TyK Try.prog (m + 1)) 146 x) : FldT x := by
 unfold TyEl at h
 have : isAggB Try.prog 146 = true := by kernel_rfl
 rw [if_pos this, kinds146] at h
 obtain ⟨cs, rfl, hc⟩ := h
 obtain ⟨_, _, rfl, h0, hc⟩ := all2_cons hc
 obtain ⟨_, _, rfl, h1, hc⟩ := all2_cons hc
 obtain ⟨_, _, rfl, h2, hc⟩ := all2_cons hc
 obtain rfl := all2_nil hc
 obtain ⟨a, rfl, ha⟩ := ty_int h0
 obtain ⟨b, rfl, hb⟩ := ty_int h1
 obtain ⟨c, rfl, hc9⟩ := ty_int h2
 exact ⟨a, b, c, rfl, wf64 ha, wf64 hb, wf64 hc9⟩
theorem defT_ok {m : Nat} {x : D} (h : TyEl Try.prog (TyK Try.prog (m + 2)) 103 x) : DefT x := by
 unfold TyEl at h
 have : isAggB Try.prog 103 = true := by kernel_rfl
 rw [if_pos this, kinds103] at h
 obtain ⟨cs, rfl, hc⟩ := h
 obtain ⟨_, _, rfl, h0, hc⟩ := all2_cons hc
 obtain ⟨_, _, rfl, h1, hc⟩ := all2_cons hc
 obtain ⟨_, _, rfl, h2, hc⟩ := all2_cons hc
 obtain rfl := all2_nil hc
 obtain ⟨b, rfl⟩ := ty_bool h0
 obtain ⟨g, rfl, hg⟩ := ty_int h1
 obtain ⟨nl, fs, rfl, n1, n2, n3⟩ := ty_sl h2
 exact ⟨b, g, nl, fs, rfl, wf64 hg, n1, n2, fun f hf => fldT_ok (n3 f hf)⟩
theorem entT_ok {m : Nat} {x : D} (h : TyEl Try.prog (TyK Try.prog (m + 3)) 53 x) : EntT x := by
 unfold TyEl at h
 have : isAggB Try.prog 53 = true := by kernel_rfl
 rw [if_pos this, kinds53] at h
 obtain ⟨cs, rfl, hc⟩ := h
 obtain ⟨_, _, rfl, h0, hc⟩ := all2_cons hc
 obtain ⟨_, _, rfl, h1, hc⟩ := all2_cons hc
 obtain ⟨_, _, rfl, h2, hc⟩ := all2_cons hc
 obtain ⟨_, _, rfl, h3, hc⟩ := all2_cons hc
 obtain ⟨_, _, rfl, h4, hc⟩ := all2_cons hc
 obtain rfl := all2_nil hc
 obtain ⟨a, rfl, ha⟩ := ty_int h0
 obtain ⟨b, rfl, hb⟩ := ty_int h1
 obtain ⟨c, rfl, hc9⟩ := ty_int h2
 obtain ⟨dn, ds, rfl, n1, n2, n3⟩ := ty_sl h3
 obtain ⟨bn, data, rfl, m1, m2, m3⟩ := ty_sl h4
 exact ⟨a, b, c, dn, ds, bn, data, rfl, wf64 ha, wf64 hb, wf64 hc9, n1, m1, n2, m2, fun d hd => defT_ok (n3 d hd), fun y hy => byteT_ok (m3 y hy)⟩
theorem EntT.entD {x : D} (h : EntT x) : EntD x := by
 obtain ⟨a, b, c, dn, ds, bn, data, rfl, _, _, _, n1, m1, n2, m2, n3, m3⟩ := h
 refine ⟨n2, m2, fun d hd => ?_, fun y hy => ?_⟩
 ·obtain ⟨big, g, nl, fs, rfl, _, _, hl, _⟩ := n3 d hd
  exact hl
 ·obtain ⟨n, rfl, h0, h1⟩ := m3 y hy
  exact ⟨h0, h1⟩
theorem arg33 {ds : List D} (h : ArgOk Try.prog 6 33 ds) : ∃ nl es, ds = [.l nl es] ∧ (nl = true → es = []) ∧ es.length ≤ maxLen ∧ ∀ x ∈ es, EntT x := by
 unfold ArgOk at h
 rw [kinds33] at h
 obtain ⟨_, _, rfl, h0, h⟩ := all2_cons h
 obtain rfl := all2_nil h
 obtain ⟨nl, es, rfl, h1, h2, h3⟩ := ty_sl (m := 5) h0
 exact ⟨nl, es, rfl, h1, h2, fun x hx => entT_ok (h3 x hx)⟩
theorem kinds3' : kinds Try.prog 3 = [.int .i64] := by kernel_rfl
theorem arg3 {ds : List D} (h : ArgOk Try.prog 6 3 ds) : ∃ n, ds = [.i n] ∧ In64 n := by
 unfold ArgOk at h
 rw [kinds3'] at h
 obtain ⟨_, _, rfl, h0, h⟩ := all2_cons h
 obtain rfl := all2_nil h
 obtain ⟨n, rfl, hn⟩ := ty_int (m := 5) h0
 exact ⟨n, rfl, wf64 hn⟩
end Go.Proofs.Ytnnofignhdijiaa

/-! Plain laws: an entry's copy; a row of numbers in order; a search in it. -/
namespace Go.Proofs.Ytnnofignhdijiaa
open Go Go.AM
set_option maxRecDepth 100000
set_option maxHeartbeats 4000000
set_option linter.unusedVariables false
variable {N : Nat}
/-! ### Numbers in order -/
/-- In order, from 0 to n - 1. -/
structure Asc (l : List D) (n : Int) : Prop where
 lo : ∀ i : Int, 0 ≤ i → i < l.length → 0 ≤ by_ l i ∧ by_ l i ≤ n - 1
 up : ∀ i j : Int, 0 ≤ i → i < j → j < l.length → by_ l i < by_ l j
theorem Asc.ge {l : List D} {n : Int} (h : Asc l n) : ∀ i : Nat, i < l.length → (i : Int) ≤ by_ l i
 | 0, hi => (h.lo 0 (by omega) (by omega)).1
 | i + 1, hi => by
  have h1 := Asc.ge h i (by omega)
  have h2 := h.up i (i + 1) (by omega) (by omega) (by omega)
  have : ((i + 1 : Nat) : Int) = (i : Int) + 1 := by omega
  rw [this]
  omega
theorem Asc.len {l : List D} {n : Int} (h : Asc l n) (hn : 0 ≤ n) : (l.length : Int) ≤ n := by
 rcases Nat.eq_zero_or_pos l.length with h0 | h0
 ·omega
 ·have h1 := h.ge (l.length - 1) (by omega)
  have h2 := (h.lo ((l.length - 1 : Nat) : Int) (by omega) (by omega)).2
  omega
end Go.Proofs.Ytnnofignhdijiaa

/-! Plain laws: Without. -/
namespace Go.Proofs.Ytnnofignhdijiaa
open Go Go.AM
set_option maxRecDepth 100000
set_option maxHeartbeats 4000000
set_option linter.unusedVariables false
variable {N : Nat}
section
variable {l es : List D}
/-- The program's and the reference's lists behind some rounds. -/
structure Two (xs ys : List D) (n : Int) : Prop where
 eq : All2 EqE xs ys
 ok : ∀ x ∈ xs, EntD x
 ok' : ∀ y ∈ ys, EntD y
 len : (xs.length : Int) ≤ n
end
end Go.Proofs.Ytnnofignhdijiaa

/-! Plain laws: Find; a number's bytes. -/
namespace Go.Proofs.Ytnnofignhdijiaa
open Go Go.AM
set_option maxRecDepth 100000
set_option maxHeartbeats 4000000
set_option linter.unusedVariables false
variable {N : Nat}
theorem not1 {k : Int} (h : k ≠ 1) : (k == 1) = false ∧ (k != 1) = true := by
 constructor <;> simpa using h
/-- What the reference kept of the entry at a place. -/
theorem PlL.at_ {a : Ab} {es ds : List D} {x : D} (h : PlL a (x :: es) ds) : ∃ d r, ds = d :: r ∧ defOk a x d ∧ PlL (stepA a x) es r := by
 cases ds with
 | nil => exact h.elim
 | cons d r => exact ⟨d, r, rfl, h.1, h.2⟩
section
variable {es : List D}
end
/-! ### A number, its bytes, and the number again -/
theorem bt_at {n : Int} (h0 : 0 ≤ n) (h1 : n < 4294967296) : (bt n 0).toI = n % 256 ∧ (bt n 1).toI = n / 256 % 256 ∧ (bt n 2).toI = n / 65536 % 256 ∧ (bt n 3).toI = n / 16777216 % 256 := by
 have e : ∀ k : Nat, (n.fdiv (2 ^ k)) = n / 2 ^ k := fun k => Int.fdiv_eq_ediv_of_nonneg _ (by exact Int.le_of_lt (Int.pow_pos (by decide)))
 have w0 : (min (IntKind.wrap .i64 (8 * 0)).toNat 64) = 0 := by decide
 have w1 : (min (IntKind.wrap .i64 (8 * 1)).toNat 64) = 8 := by decide
 have w2 : (min (IntKind.wrap .i64 (8 * 2)).toNat 64) = 16 := by decide
 have w3 : (min (IntKind.wrap .i64 (8 * 3)).toNat 64) = 24 := by decide
 unfold bt D.toI
 simp only [w0, w1, w2, w3, e, IntKind.wrap_u8]
 refine ⟨?_, ?_, ?_, ?_⟩ <;> omega
theorem numB_nb4 {n : Int} (big : Bool) (h0 : 0 ≤ n) (h1 : n < 4294967296) : numB (nb4 n big) big = n := by
 obtain ⟨b0, b1, b2, b3⟩ := bt_at h0 h1
 cases big with
 | true =>
  show 256 * (256 * (256 * (256 * 0 + (bt n 3).toI) + (bt n 2).toI) + (bt n 1).toI) + (bt n 0).toI = n
  rw [b0, b1, b2, b3]; omega
 | false =>
  show 256 * (256 * (256 * (256 * 0 + (bt n 3).toI) + (bt n 2).toI) + (bt n 1).toI) + (bt n 0).toI = n
  rw [b0, b1, b2, b3]; omega
theorem numB_nb2 {n : Int} (big : Bool) (h0 : 0 ≤ n) (h1 : n < 65536) : numB (nb2 n big) big = n := by
 obtain ⟨b0, b1, _, _⟩ := bt_at (n := n) h0 (by omega)
 cases big with
 | true =>
  show 256 * (256 * 0 + (bt n 1).toI) + (bt n 0).toI = n
  rw [b0, b1]; omega
 | false =>
  show 256 * (256 * 0 + (bt n 1).toI) + (bt n 0).toI = n
  rw [b0, b1]; omega
end Go.Proofs.Ytnnofignhdijiaa

/-! Plain laws: what Write writes of an entry, read again. -/
namespace Go.Proofs.Ytnnofignhdijiaa
open Go Go.AM
set_option maxRecDepth 100000
set_option maxHeartbeats 4000000
set_option linter.unusedVariables false
variable {N : Nat}
section
variable {bs l post : List D} {a : Int}
theorem by_of (h0 : 0 ≤ a) (hd : bs.drop a.toNat = l ++ post) {k : Int} (k0 : 0 ≤ k) (k1 : k < l.length) : by_ bs (a + k) = (l.getD k.toNat (.i 0)).toI := by
 unfold by_
 have := congrArg (fun x => x.getD k.toNat (D.i 0)) hd
 simp only [List.getD_eq_getElem?_getD, List.getElem?_drop] at this ⊢
 rw [show (a + k).toNat = a.toNat + k.toNat by omega, this, List.getElem?_append_left (by omega)]
theorem sub_of (h0 : 0 ≤ a) (hd : bs.drop a.toNat = l ++ post) {m n : Int} (m0 : 0 ≤ m) (mn : m ≤ n) (n1 : n ≤ l.length) : (bs.take (a + n).toNat).drop (a + m).toNat = (l.take n.toNat).drop m.toNat := by
 have h1 : (bs.take (a + n).toNat).drop (a + m).toNat = (((bs.drop a.toNat).take n.toNat).drop m.toNat) := by
  rw [List.take_drop, List.drop_drop, show a.toNat + n.toNat = (a + n).toNat by omega, show a.toNat + m.toNat = (a + m).toNat by omega]
 rw [h1, hd, List.take_append_of_le_length (by omega)]
theorem len_of (h0 : 0 ≤ a) (hd : bs.drop a.toNat = l ++ post) (hl : 0 < l.length) : a + l.length ≤ bs.length := by
 have := congrArg List.length hd
 simp only [List.length_drop, List.length_append] at this
 omega
end
theorem u8_val {n : Int} (h0 : 0 ≤ n) (h1 : n ≤ 255) : (u8 n).toI = n := by
 unfold u8 D.toI
 simp only [IntKind.wrap_u8]
 omega
/-! ### Definitions -/
theorem fields_ok {g : Int} {fs : List D} (h : defE g fs = 0) : (0 ≤ g ∧ g ≤ 65535) ∧ fs.length ≤ 30 ∧ ∀ f ∈ fs, (0 ≤ fN f ∧ fN f ≤ 255) ∧ (1 ≤ fS f ∧ fS f ≤ 255) ∧ (0 ≤ fT f ∧ fT f ≤ 3) := by
 unfold defE at h
 cases h1 : inI g 0 65535 with
 | false => rw [h1] at h; exact absurd (show (9 : Int) = 0 from h) (by decide)
 | true =>
  rw [h1] at h
  cases h2 : decide ((fs.length : Int) > 30) with
  | true => rw [h2] at h; exact absurd (show (3 : Int) = 0 from h) (by decide)
  | false =>
   rw [h2] at h
   simp only [Bool.not_true, _root_.cond_false] at h
   refine ⟨by unfold inI at h1; simpa using h1, by simp at h2; omega, fun f hf => ?_⟩
   obtain ⟨i, hi, rfl⟩ := List.getElem_of_mem hf
   have := firstE_zero h i hi
   rw [Int.zero_add] at this
   unfold fldE at this
   have hg : fs.getD ((i : Int)).toNat (.i 0) = fs[i] := by
    rw [List.getD_eq_getElem?_getD, Int.toNat_natCast, List.getElem?_eq_getElem hi]; rfl
   rw [hg] at this
   cases h3 : inI (fN fs[i]) 0 255 with
   | false => rw [h3] at this; exact absurd (show (9 : Int) = 0 from this) (by decide)
   | true =>
   cases h4 : inI (fS fs[i]) 1 255 with
   | false => rw [h3, h4] at this; exact absurd (show (9 : Int) = 0 from this) (by decide)
   | true =>
   cases h5 : inI (fT fs[i]) 0 3 with
   | false => rw [h3, h4, h5] at this; exact absurd (show (7 : Int) = 0 from this) (by decide)
   | true =>
    unfold inI at h3 h4 h5
    simp at h3 h4 h5
    exact ⟨h3, h4, h5⟩
theorem trip_flds {bs : List D} : ∀ {fs : List D} {a : Int}, 0 ≤ a → (∀ f ∈ fs, FldT f) → (∀ f ∈ fs, (0 ≤ fN f ∧ fN f ≤ 255) ∧ (1 ≤ fS f ∧ fS f ≤ 255) ∧ (0 ≤ fT f ∧ fT f ≤ 3)) → (∃ post, bs.drop a.toNat = fldsB fs ++ post) → trip bs fs.length a = fs
 | [], _, _, _, _, _ => rfl
 | f :: r, a, h0, ht, hv, ⟨post, hd⟩ => by
  have hl : (fldsB (f :: r)).length = 3 * (r.length + 1) := by rw [fldsB_len]; rfl
  obtain ⟨v1, v2, v3⟩ := hv f (by simp)
  have b0 := by_of h0 hd (k := 0) (by omega) (by omega)
  have b1 := by_of h0 hd (k := 1) (by omega) (by omega)
  have b2 := by_of h0 hd (k := 2) (by omega) (by omega)
  have e0 : ((fldsB (f :: r)).getD (0 : Int).toNat (.i 0)).toI = fN f := u8_val (by omega) (by omega)
  have e1 : ((fldsB (f :: r)).getD (1 : Int).toNat (.i 0)).toI = fS f := u8_val (by omega) (by omega)
  have e2 : ((fldsB (f :: r)).getD (2 : Int).toNat (.i 0)).toI = fT f := u8_val (by omega) (by omega)
  rw [e0, Int.add_zero] at b0
  rw [e1] at b1
  rw [e2] at b2
  obtain ⟨x, y, z, rfl, _, _, _⟩ := ht f (by simp)
  have ih := trip_flds (bs := bs) (fs := r) (a := a + 3) (by omega) (fun g hg => ht g (by simp [hg])) (fun g hg => hv g (by simp [hg])) ⟨post, by
   have := congrArg (List.drop 3) hd
   rw [List.drop_drop] at this
   rw [show (a + 3).toNat = a.toNat + 3 by omega, this]
   rfl⟩
  simp only [List.length_cons, trip, fldAt]
  rw [b0, b1, b2, ih]
  rfl
section
variable {bs : List D} {a slot : Int} {d : D} {post : List D}
/-- What lies at a definition's place. -/
theorem def_read (h0 : 0 ≤ a) (hs0 : 0 ≤ slot) (hs1 : slot ≤ 15) {big : Bool} {g : Int} {nl : Bool} {fs : List D} (hE : defE g fs = 0) (ht : ∀ f ∈ fs, FldT f) (hd : bs.drop a.toNat = defB slot (.a [.b big, .i g, .l nl fs]) ++ post) :
  by_ bs a = 64 + slot ∧ by_ bs (a + 1) = (bif big then 1 else 0) ∧ by_ bs (a + 4) = fs.length ∧ numB ((bs.take (a + 4).toNat).drop (a + 2).toNat) big = g ∧ trip bs fs.length (a + 5) = fs ∧ defIn bs a := by
 obtain ⟨g0, f0, fv⟩ := fields_ok hE
 have hl := defB_len slot (.a [.b big, .i g, .l nl fs])
 have hl : (defB slot (.a [.b big, .i g, .l nl fs])).length = 5 + 3 * fs.length := hl
 have lo := len_of h0 hd (by omega)
 have b0 := by_of h0 hd (k := 0) (by omega) (by omega)
 have b1 := by_of h0 hd (k := 1) (by omega) (by omega)
 have b4 := by_of h0 hd (k := 4) (by omega) (by omega)
 have s2 := sub_of h0 hd (m := 2) (n := 4) (by omega) (by omega) (by omega)
 have e0 : ((defB slot (.a [.b big, .i g, .l nl fs])).getD (0 : Int).toNat (.i 0)).toI = 64 + slot := u8_val (by omega) (by omega)
 have e1 : ((defB slot (.a [.b big, .i g, .l nl fs])).getD (1 : Int).toNat (.i 0)).toI = (bif big then 1 else 0) := rfl
 have e4 : ((defB slot (.a [.b big, .i g, .l nl fs])).getD (4 : Int).toNat (.i 0)).toI = fs.length := by
  have : ((defB slot (.a [.b big, .i g, .l nl fs])).getD (4 : Int).toNat (.i 0)) = u8 (fs.length : Int) := by
   cases big <;> rfl
  rw [this]; exact u8_val (by omega) (by omega)
 have es : ((defB slot (.a [.b big, .i g, .l nl fs])).take (4 : Int).toNat).drop (2 : Int).toNat = nb2 g big := by cases big <;> rfl
 rw [e0, Int.add_zero] at b0
 rw [e1] at b1
 rw [e4] at b4
 rw [es] at s2
 refine ⟨b0, b1, b4, ?_, ?_, ⟨by omega, by rw [b4]; omega⟩⟩
 ·rw [s2]; exact numB_nb2 big g0.1 (by omega)
 ·refine trip_flds (by omega) ht fv ⟨post, ?_⟩
  have := congrArg (List.drop 5) hd
  rw [List.drop_drop] at this
  rw [show (a + 5).toNat = a.toNat + 5 by omega, this]
  cases big <;> rfl
end
/-! ### Slots again -/
theorem slP_of {p s : D} {a : Ab} (h : Slots p s) (hs : SlS s a) : SlP p a :=
 ⟨fun j hj => by rw [h.known j hj, hs.kn j hj], fun j hj hk => by
  have hk' : (p.cell (0 + j * 6)).toB = true := by rw [h.known j hj, hs.kn j hj]; exact hk
  obtain ⟨p1, p2, p3, p4, p5, p6⟩ := h.defs j hj hk'
  obtain ⟨s1, s2, s3⟩ := hs.df j hj hk
  rw [p5, p6, p2, p3, p4, s1, s2, s3]
  rw [p4, s3] at p1
  exact ⟨p1, rfl, rfl, rfl, rfl, rfl⟩⟩
/-- The slots alone (of the reading program, and as the reference would keep them). -/
structure Rd (p : D) (a : Ab) : Prop where
 p : SlP p a
 s : ∃ s, SlS s a
theorem Rd.step_data' {p : D} {a : Ab} {x : D} (h : Rd p a) (hk : kX x ≠ 1) : Rd p (stepA a x) := by
 have e : stepA a x = { a with last := bif decide (timeE a x ≥ 0) then timeE a x else a.last } := by
  unfold stepA stepD
  rw [(not1 hk).1]
  rfl
 obtain ⟨s, hs⟩ := h.s
 rw [e]
 exact ⟨slP_same h.p, s, slS_same hs⟩
/-- An entry as it is read. -/
structure Back (N : Nat) (bs : List D) (i : Int) (p : D) (x : D) (a : Ab) : Prop where
 r : ∃ dn ds bn p', G133x0 N i false bs p = some (kX x, sX x, oX x, dn, ds, bn, bX x, true, i + (entX x).length, p') ∧ ds.map nDef = (dX x).map nDef ∧ Rd p' (stepA a x)
theorem err_data {a : Ab} {kind slot off : Int} {ds data : List D} (h : errC a kind slot off ds data = 0) (hk : kind = 1) : data = [] ∧ off = 0 := by
 subst hk
 unfold errC entE at h
 cases h2 : inI slot 0 (bif ((1 : Int) == 3) then 3 else 15) with
 | false => rw [h2] at h; exact absurd (show (9 : Int) = 0 from h) (by decide)
 | true =>
 cases h3 : inI off 0 (bif ((1 : Int) == 3) then 31 else 0) with
 | false => rw [h2, h3] at h; exact absurd (show (9 : Int) = 0 from h) (by decide)
 | true =>
  rw [h2, h3] at h
  have h1 : inI 1 1 3 = true := rfl
  rw [h1] at h
  constructor
  ·cases h4 : ((ds.length : Int) != 1) || decide ((data.length : Int) > 0) with
   | true => simp only [Bool.not_true, _root_.cond_false, Bool.or_self, beq_self_eq_true, _root_.cond_true, h4] at h; exact absurd h (by decide)
   | false => simp at h4; simpa using h4.2
  ·unfold inI at h3; simp at h3; omega
theorem err_off {a : Ab} {kind slot off : Int} {ds data : List D} (h : errC a kind slot off ds data = 0) (hk : kind = 2) : off = 0 := by
 subst hk
 unfold errC entE at h
 cases h2 : inI slot 0 (bif ((2 : Int) == 3) then 3 else 15) with
 | false => rw [h2] at h; exact absurd (show (9 : Int) = 0 from h) (by decide)
 | true =>
 cases h3 : inI off 0 (bif ((2 : Int) == 3) then 31 else 0) with
 | false => rw [h2, h3] at h; exact absurd (show (9 : Int) = 0 from h) (by decide)
 | true => unfold inI at h3; simp at h3; omega
theorem err_slot {a : Ab} {kind slot off : Int} {ds data : List D} (h : errC a kind slot off ds data = 0) (hk : kind = 3) : slot ≤ 3 := by
 subst hk
 unfold errC entE at h
 cases h2 : inI slot 0 (bif ((3 : Int) == 3) then 3 else 15) with
 | false => rw [h2] at h; exact absurd (show (9 : Int) = 0 from h) (by decide)
 | true => unfold inI at h2; simp at h2; omega
end Go.Proofs.Ytnnofignhdijiaa

/-! Plain laws: an entry's bytes, whole or cut, read. -/
namespace Go.Proofs.Ytnnofignhdijiaa
open Go Go.AM
set_option maxRecDepth 100000
set_option maxHeartbeats 4000000
set_option linter.unusedVariables false
variable {N : Nat}
section
variable {bs : List D} {p : D} {a : Ab} {i n kind slot off : Int}
theorem tail_ok (hN : maxLen < N) (hl : bs.length ≤ maxLen) (h0 : 0 ≤ i) (hp : SlP p a) (hs0 : 0 ≤ slot) (hs1 : slot < 16) (hkn : a.kn slot.toNat = true) (hk : kind = 2 ∨ kind = 3) (ht : kind = 3 → 0 ≤ tmL 0 (a.fs slot.toNat)) (hn : n = bif kind == 3 then szL (a.fs slot.toNat) - 4 else szL (a.fs slot.toNat)) :
  (i + 1 + n ≤ bs.length → tailP N kind slot off (i + 1) false bs p = some (kind, slot, off, true, [], false, (bs.take (i + 1 + n).toNat).drop (i + 1).toNat, true, i + 1 + n, p)) ∧
  (i + 1 ≤ bs.length → ¬ i + 1 + n ≤ bs.length → ∃ dn data a', tailP N kind slot off (i + 1) false bs p = some (kind, slot, off, true, [], dn, data, false, a', p)) := by
 have hm : maxLen = 9223372036854775807 := rfl
 have i1 : inB slot 16 = true := inB_of hs0 (by omega)
 have i2 : slot.toNat < 16 := by omega
 obtain ⟨d1, _, _, d4, d5, d6⟩ := hp.df _ i2 hkn
 have tb := tmL_bound (a := 0) (by omega) d1.size
 have sb := szL_bound d1.size
 have lb := d1.len
 have hn0 : 0 ≤ n ∧ n ≤ 100000 := by
  rcases hk with rfl | rfl
  ·rw [hn, show ((2 : Int) == 3) = false from rfl]; simp only [_root_.cond_false]; omega
  ·have := ht rfl
   rw [hn, show ((3 : Int) == 3) = true from rfl]; simp only [_root_.cond_true]; omega
 have hz : V133x0x89 N (szL (a.fs slot.toNat)) (kind == 3) = n := by
  unfold V133x0x89 F133x0x89
  rcases hk with rfl | rfl
  ·rw [hn]; rfl
  ·have := ht rfl
   rw [hn, show ((3 : Int) == 3) = true from rfl]
   simp only [_root_.cond_true]
   rw [wrapI (by omega) (by omega)]
 have h3 : (bif kind == 3 then decide (tmL 0 (a.fs slot.toNat) < 0) else false) = false := by
  rcases hk with rfl | rfl
  ·rfl
  ·rw [show ((3 : Int) == 3) = true from rfl, decide_eq_false (by have := ht rfl; omega)]; rfl
 have hun : tailP N kind slot off (i + 1) false bs p = bnd (G134x0 N n (i + 1) false bs) fun y6 =>
   bif y6.isSome then
    bnd (G129x0 N (y6.getD default).1 (y6.getD default).2.1) fun y7 =>
    bif y7.isSome then
     some (kind, slot, off, true, [], (y7.getD default).1, (y7.getD default).2, (decide ((y6.getD default).2.2 ≥ 0)), (y6.getD default).2.2, p)
    else none
   else none := by
  unfold tailP
  rw [i1]
  simp only [_root_.cond_true, bnd_eq, decide_eq_false (show ¬ i + 1 < 0 by omega), _root_.cond_false, hp.kn _ i2, hkn, Bool.not_true, d6, h3, d5, hz]
 rw [hun]
 constructor
 ·intro fit
  rw [piece_ok hn0.1 hl (by omega) (by omega)]
  have lx : ((bs.take (i + 1 + n).toNat).drop (i + 1).toNat).length = n.toNat := by rw [sub_len (by omega)]; omega
  simp only [bnd_eq, getD_some, Option.isSome_some, _root_.cond_true, clone_no (N := N) (show ((bs.take (i + 1 + n).toNat).drop (i + 1).toNat).length ≤ 100000 by omega)]
  rw [decide_eq_true (show i + 1 + n ≥ 0 by omega)]
 ·intro h1 cut
  rw [piece_no hn0.1 hn0.2 hl (by omega) (by omega) (by omega)]
  simp only [bnd_eq, getD_some, Option.isSome_some, _root_.cond_true, clone_no (N := N) (show (List.replicate n.toNat (D.i 0)).length ≤ 100000 by simp; omega)]
  exact ⟨_, _, _, rfl⟩
/-- The head's byte says which kind. -/
theorem head_data (hN : maxLen < N) (hb : BytesOk bs) (hl : bs.length ≤ maxLen) (h0 : 0 ≤ i) (h1 : i < bs.length) (hk : kind = 2 ∨ kind = 3) (hs0 : 0 ≤ slot) (hs1 : slot ≤ 15) (hs3 : kind = 3 → slot ≤ 3) (ho0 : 0 ≤ off) (ho1 : off ≤ 31) (ho2 : kind = 2 → off = 0)
  (hc : by_ bs i = bif kind == 3 then 128 + 32 * slot + off else slot) : G133x0 N i false bs p = tailP N kind slot off (i + 1) false bs p := by
 have hm : maxLen = 9223372036854775807 := rfl
 have q0 := piece_ok (N := N) (n := 1) (nl := false) (by omega) hl h0 (show i + 1 ≤ bs.length by omega)
 have l0 : ((bs.take (i + 1).toNat).drop i.toNat).length = 1 := by rw [sub_len (by omega)]; omega
 have v0 : (((bs.take (i + 1).toNat).drop i.toNat).getD 0 (.i 0)).toI = by_ bs i := one_by h0 rfl rfl
 have i0 : inB 0 1 = true := rfl
 obtain ⟨c0, c1⟩ := by_in hb h0 h1
 unfold G133x0 F133x0
 rw [q0]
 simp only [bnd_eq, Option.isSome_some, getD_some, _root_.cond_true, l0, i0, v0, wrapI (x := by_ bs i) (by omega) (by omega)]
 rcases hk with rfl | rfl
 ·have hv : by_ bs i = slot := hc
  rw [hv, ho2 rfl, decide_eq_false (show ¬ slot ≥ 128 by omega)]
  have g1 : G133x0x24023 N slot false (i + 1) false bs p = some (.inl (2, slot, 0)) := by
   unfold G133x0x24023 F133x0x24023
   rw [decide_eq_true (show slot < 16 by omega)]; rfl
  rw [g1]
  rfl
 ·have := hs3 rfl
  have hv : by_ bs i = 128 + 32 * slot + off := hc
  rw [hv, decide_eq_true (show 128 + 32 * slot + off ≥ 128 by omega)]
  have w1 : IntKind.wrap .i64 (128 + 32 * slot + off - 128) = 32 * slot + off := by rw [wrapI (by omega) (by omega)]; omega
  have m1 : (32 * slot + off).tdiv 32 = slot := by rw [Int.tdiv_eq_ediv_of_nonneg (by omega)]; omega
  have m2 : (128 + 32 * slot + off).tmod 32 = off := by rw [Int.tmod_eq_emod_of_nonneg (by omega)]; omega
  have g1 : G133x0x24023 N (128 + 32 * slot + off) true (i + 1) false bs p = some (.inl (3, slot, off)) := by
   unfold G133x0x24023 F133x0x24023
   rw [w1, m1, m2, wrapI (by omega) (by omega)]; rfl
  rw [g1]
  rfl
theorem head_def (hN : maxLen < N) (hb : BytesOk bs) (hl : bs.length ≤ maxLen) (h0 : 0 ≤ i) (h1 : i < bs.length) (hs0 : 0 ≤ slot) (hs1 : slot ≤ 15) (hc : by_ bs i = 64 + slot) {ok : Bool} {a' : Int} {p' d : D} (g1 : G133x0x24023 N (64 + slot) false (i + 1) false bs p = some (.inr (.inl (ok, a', p', 64 + slot - 64, 64 + slot - 64, [d])))) :
  G133x0 N i false bs p = some (1, slot, 0, false, [d], true, [], ok, a', p') := by
 have hm : maxLen = 9223372036854775807 := rfl
 have q0 := piece_ok (N := N) (n := 1) (nl := false) (by omega) hl h0 (show i + 1 ≤ bs.length by omega)
 have l0 : ((bs.take (i + 1).toNat).drop i.toNat).length = 1 := by rw [sub_len (by omega)]; omega
 have v0 : (((bs.take (i + 1).toNat).drop i.toNat).getD 0 (.i 0)).toI = by_ bs i := one_by h0 rfl rfl
 have i0 : inB 0 1 = true := rfl
 obtain ⟨c0, c1⟩ := by_in hb h0 h1
 unfold G133x0 F133x0
 rw [q0]
 simp only [bnd_eq, Option.isSome_some, getD_some, _root_.cond_true, l0, i0, v0, wrapI (x := by_ bs i) (by omega) (by omega)]
 rw [hc, decide_eq_false (show ¬ 64 + slot ≥ 128 by omega), g1]
 rw [show 64 + slot - 64 = slot by omega]
 rfl
end
section
variable {bs : List D} {p x : D} {a : Ab} {i : Int}
theorem entX_data (hk : kX x = 2 ∨ kX x = 3) : entX x = u8 (bif kX x == 3 then 128 + 32 * sX x + oX x else sX x) :: bX x := by
 unfold entX entB
 rcases hk with h | h
 ·rw [h]; rfl
 ·rw [h]; rfl
theorem entX_def (hk : kX x = 1) : entX x = defB (sX x) (d0X x) := by
 unfold entX entB
 rw [hk]; rfl
/-- What is known of an entry of data that is right. -/
theorem data_ok (ha : OkA a) (h : errE a x = 0) (hk : kX x = 2 ∨ kX x = 3) : a.kn (sX x).toNat = true ∧ dX x = [] ∧ (kX x = 3 → 0 ≤ tmL 0 (a.fs (sX x).toNat)) ∧ ((bX x).length : Int) = (bif kX x == 3 then szL (a.fs (sX x).toNat) - 4 else szL (a.fs (sX x).toNat)) := by
 have hE := entE_ok h
 have hn := hE.n (by rcases hk with h | h <;> omega)
 refine ⟨hn.1, List.length_eq_zero_iff.1 hn.2, fun h3 => (hE.h h3).1, ?_⟩
 rcases hk with h2 | h3
 ·rw [h2]; exact hE.t h2
 ·rw [h3]; exact (hE.h h3).2.2.2.2
theorem def_of (ht : EntT x) (h : errE a x = 0) (hk : kX x = 1) : ∃ big g nl fs, dX x = [.a [.b big, .i g, .l nl fs]] ∧ defE g fs = 0 ∧ (∀ f ∈ fs, FldT f) := by
 have hE := entE_ok h
 obtain ⟨d1, d2⟩ := hE.d hk
 obtain ⟨k', s', o', dn, ds, bn, data, rfl, _, _, _, n1, n2, _, _, n3, _⟩ := ht
 match ds, d1 with
 | [d], _ =>
  obtain ⟨big, g, nl, fs, rfl, _, _, _, hf⟩ := n3 d (by simp)
  exact ⟨big, g, nl, fs, rfl, d2, hf⟩
theorem read_back (hN : maxLen < N) (hb : BytesOk bs) (hl : bs.length ≤ maxLen) (h0 : 0 ≤ i) (ht : EntT x) (ha : OkA a) (hp : Rd p a) (h : errE a x = 0) {post : List D} (hd : bs.drop i.toNat = entX x ++ post) : Back N bs i p x a := by
 have hm : maxLen = 9223372036854775807 := rfl
 obtain ⟨k1, s1, o1, _, b1⟩ := ent_ok (ha _) h
 have el := entX_len ha h
 have lo := len_of h0 hd (by omega)
 by_cases hk : kX x = 1
 ·obtain ⟨big, g, nl, fs, hds, hE, hf⟩ := def_of ht h hk
  obtain ⟨e1, e2⟩ := err_data h hk
  have hx : entX x = defB (sX x) (.a [.b big, .i g, .l nl fs]) := by rw [entX_def hk]; unfold d0X; rw [hds]; rfl
  have hxl : (entX x).length = 5 + 3 * fs.length := by rw [hx]; exact defB_len _ _
  rw [hx] at hd
  obtain ⟨v0, v1, v4, v2, v5, vin⟩ := def_read h0 s1.1 s1.2 hE hf hd
  obtain ⟨ok, a', p', d, g1, ho, hdd⟩ := prog_def (N := N) (p := p) hN hb hl (nl := false) h0 (by omega) (show (64 : Int) ≤ 64 + sX x by omega) (show 64 + sX x ≤ 79 by omega)
  have hok : ok = true := ho.2 ⟨vin, by rw [v1]; cases big <;> decide⟩
  obtain ⟨ea, ed, hs'⟩ := hdd vin
  subst hok
  have hbig : (by_ bs (i + 1) == 1) = big := by rw [v1]; cases big <;> rfl
  have hG := head_def (N := N) (p := p) hN hb hl h0 (by omega) s1.1 s1.2 v0 g1
  obtain ⟨s, hs⟩ := hp.s
  have hsl := hs' s (slots_of hp.p hs)
  rw [show 64 + sX x - 64 = sX x by omega, hbig, v2, v4, Int.toNat_natCast, v5] at hsl
  have hst : stepA a x = { a with kn := upA a.kn (sX x).toNat true, bg := upA a.bg (sX x).toNat big, gl := upA a.gl (sX x).toNat g, fs := upA a.fs (sX x).toNat fs } := by
   unfold stepA stepD
   rw [hk, hds]; rfl
  have hss := slS_put (s := s) hs (j := (sX x).toNat) (by omega) (big := big) (g := g) (nl := fs.isEmpty) (fs := fs) (last := a.last)
  refine ⟨false, [d], true, p', ?_, ?_, ?_⟩
  ·rw [hG, hk, e1, e2, ea, v4, hxl]
   congr 1
   simp only [Prod.mk.injEq, true_and, and_true]
   omega
  ·rw [hds, ed]
   simp only [List.map_cons, List.map_nil, List.cons.injEq, and_true]
   unfold defAt
   rw [hbig, v2, v4, Int.toNat_natCast, v5]
   rfl
  ·rw [hst]
   exact ⟨slP_of hsl hss, _, hss⟩
 ·have hk2 : kX x = 2 ∨ kX x = 3 := by omega
  obtain ⟨kn, dn, t3, ln⟩ := data_ok ha h hk2
  have hx := entX_data hk2
  have hxl : (entX x).length = 1 + (bX x).length := by rw [hx]; simp; omega
  have hc : by_ bs i = bif kX x == 3 then 128 + 32 * sX x + oX x else sX x := by
   have b0 := by_of h0 hd (k := 0) (by omega) (by omega)
   rw [Int.add_zero] at b0
   rw [b0, hx]
   refine u8_val ?_ ?_
   ·rcases hk2 with e | e <;> rw [e] <;> simp <;> omega
   ·rcases hk2 with e | e
    ·rw [e]; simp; omega
    ·have := err_slot h e
     rw [e]; simp; omega
  have hG := head_data (N := N) (p := p) hN hb hl h0 (by omega) hk2 s1.1 s1.2 (fun e => err_slot h e) o1.1 o1.2 (fun e => err_off h e) hc
  have hT := (tail_ok (N := N) (off := oX x) hN hl h0 hp.p s1.1 (by omega) kn hk2 t3 ln).1 (by omega)
  have hsub := sub_of h0 hd (m := 1) (n := 1 + (bX x).length) (by omega) (by omega) (by omega)
  have hsub2 : (bs.take (i + 1 + ((bX x).length : Int)).toNat).drop (i + 1).toNat = bX x := by
   rw [show i + 1 + ((bX x).length : Int) = i + (1 + ((bX x).length : Int)) by omega, hsub, hx]
   rw [show (1 + ((bX x).length : Int)).toNat = (bX x).length + 1 by omega]
   simp
  refine ⟨true, [], false, p, ?_, by rw [dn], hp.step_data' hk⟩
  rw [hG, hT, hsub2, hxl]
  congr 1
  simp only [Prod.mk.injEq, true_and, and_true]
  omega
/-- A cut entry cannot be read. -/
theorem read_cut (hN : maxLen < N) (hb : BytesOk bs) (hl : bs.length ≤ maxLen) (h0 : 0 ≤ i) (h1 : i < bs.length) (ht : EntT x) (ha : OkA a) (hp : Rd p a) (h : errE a x = 0) {q : Nat} (hq : q < (entX x).length) (hd : bs.drop i.toNat = (entX x).take q) : ∃ t, G133x0 N i false bs p = some t ∧ t.2.2.2.2.2.2.2.1 = false := by
 have hm : maxLen = 9223372036854775807 := rfl
 obtain ⟨k1, s1, o1, _, b1⟩ := ent_ok (ha _) h
 have hd' : bs.drop i.toNat = (entX x).take q ++ [] := by rw [List.append_nil]; exact hd
 have lq : ((entX x).take q).length = q := by rw [List.length_take]; omega
 have lb : (bs.length : Int) = i + q := by
  have := congrArg List.length hd
  rw [List.length_drop, lq] at this
  omega
 have at_ : ∀ k : Int, 0 ≤ k → k < q → by_ bs (i + k) = ((entX x).getD k.toNat (.i 0)).toI := by
  intro k k0 k1
  rw [by_of h0 hd' k0 (by rw [lq]; omega)]
  simp only [List.getD_eq_getElem?_getD]
  rw [List.getElem?_take_of_lt (by omega)]
 have c0 := at_ 0 (by omega) (by omega)
 rw [Int.add_zero] at c0
 by_cases hk : kX x = 1
 ·obtain ⟨big, g, nl, fs, hds, hE, hf⟩ := def_of ht h hk
  obtain ⟨g0, f0, fv⟩ := fields_ok hE
  have hx : entX x = defB (sX x) (.a [.b big, .i g, .l nl fs]) := by rw [entX_def hk]; unfold d0X; rw [hds]; rfl
  have hxl : (entX x).length = 5 + 3 * fs.length := by rw [hx]; exact defB_len _ _
  have v0 : by_ bs i = 64 + sX x := by
   rw [c0, hx]; exact u8_val (by omega) (by omega)
  obtain ⟨ok, a', p', d, g1, ho, hdd⟩ := prog_def (N := N) (p := p) hN hb hl (nl := false) h0 (by omega) (show (64 : Int) ≤ 64 + sX x by omega) (show 64 + sX x ≤ 79 by omega)
  have hG := head_def (N := N) (p := p) hN hb hl h0 (by omega) s1.1 s1.2 v0 g1
  refine ⟨_, hG, ?_⟩
  show ok = false
  cases ok with
  | false => rfl
  | true =>
   obtain ⟨⟨d5, d6⟩, _⟩ := ho.1 rfl
   have v4 : by_ bs (i + 4) = fs.length := by
    rw [at_ 4 (by omega) (by omega), hx]
    have : ((defB (sX x) (.a [.b big, .i g, .l nl fs])).getD (4 : Int).toNat (.i 0)) = u8 (fs.length : Int) := by cases big <;> rfl
    rw [this]; exact u8_val (by omega) (by omega)
   rw [v4] at d6
   omega
 ·have hk2 : kX x = 2 ∨ kX x = 3 := by omega
  obtain ⟨kn, dn, t3, ln⟩ := data_ok ha h hk2
  have hx := entX_data hk2
  have hxl : (entX x).length = 1 + (bX x).length := by rw [hx]; simp; omega
  have hc : by_ bs i = bif kX x == 3 then 128 + 32 * sX x + oX x else sX x := by
   rw [c0, hx]
   refine u8_val ?_ ?_
   ·rcases hk2 with e | e <;> rw [e] <;> simp <;> omega
   ·rcases hk2 with e | e
    ·rw [e]; simp; omega
    ·have := err_slot h e
     rw [e]; simp; omega
  have hG := head_data (N := N) (p := p) hN hb hl h0 (by omega) hk2 s1.1 s1.2 (fun e => err_slot h e) o1.1 o1.2 (fun e => err_off h e) hc
  obtain ⟨dn', data, a', hT⟩ := (tail_ok (N := N) (off := oX x) hN hl h0 hp.p s1.1 (by omega) kn hk2 t3 ln).2 (by omega) (by omega)
  exact ⟨_, hG.trans hT, rfl⟩
end
end Go.Proofs.Ytnnofignhdijiaa

/-! Plain laws: all that Write writes, read again; Salvage of a part of it. -/
namespace Go.Proofs.Ytnnofignhdijiaa
open Go Go.AM
set_option maxRecDepth 100000
set_option maxHeartbeats 4000000
set_option linter.unusedVariables false
variable {N : Nat}
theorem entD_of {x y : D} (h : EqE x y) (he : EntD x) : EntD y := by
 obtain ⟨l, _⟩ := defs_eq h.d
 refine ⟨by show (dX y).length ≤ maxLen; rw [← l]; exact he.d, by show (bX y).length ≤ maxLen; rw [← h.b]; exact he.b, fun d hd => ?_, by show BytesOk (bX y); rw [← h.b]; exact he.y⟩
 have hd : d ∈ dX y := hd
 obtain ⟨j, hj, rfl⟩ := List.getElem_of_mem hd
 obtain ⟨d2, e1, e2⟩ := (map_all2 h.d.symm).get (List.getElem?_eq_getElem hj)
 rw [(nDef_inj e2).2.2]
 exact he.f d2 (List.mem_of_getElem? e1)
/-- The entry that was read. -/
def got (x : D) (dn : Bool) (ds : List D) (bn : Bool) : D := .a [.i (kX x), .i (sX x), .i (oX x), .l dn ds, .l bn (bX x)]
theorem got_eq {x : D} {dn bn : Bool} {ds : List D} (h : ds.map nDef = (dX x).map nDef) : EqE x (got x dn ds bn) := ⟨rfl, rfl, rfl, h.symm, rfl⟩
theorem got_bytes {x : D} {a : Ab} {ds : List D} (hN : maxLen < N) (ha : OkA a) (h : errE a x = 0) (hd : ds.map nDef = (dX x).map nDef) : ∃ nl l, G65x0 N (kX x) (sX x) (oX x) ds (bX x) = some (nl, l) ∧ l.length = (entX x).length := by
 obtain ⟨h1, h2, h3, h4, h5⟩ := ent_ok (ha _) h
 obtain ⟨l1, d0, d1, d2⟩ := defs_eq hd
 obtain ⟨nl, q, _⟩ := P65 (N := N) (kind := kX x) (slot := sX x) (off := oX x) (ds := ds) (data := bX x) hN h2.1 h2.2 h3.1 h3.2 h1 (fun hk => by rw [l1, d2]; exact h4 hk) (by omega)
 refine ⟨nl, _, q, ?_⟩
 unfold entX entB
 cases kX x == 2 with
 | true => rfl
 | false =>
  cases kX x == 3 with
  | true => rfl
  | false =>
   simp only [_root_.cond_false, defB_len]
   rw [d2]
section
variable {bs : List D}
theorem read_all (hN : maxLen < N) (hb : BytesOk bs) (hl : bs.length ≤ 10000000) : ∀ (es : List D) (m : Nat) (i : Int) (p : D) (a : Ab) (f : Bool) (acc : List D), es.length < m → 0 ≤ i → i + (bodyB es).length = bs.length → bs.drop i.toNat = bodyB es → (∀ x ∈ es, EntT x) → OkA a → errsA a es = 0 → Rd p a → acc.length + es.length ≤ 50000 →
  ∃ f' ys, L35x0x33 N bs false bs m i f acc i p (fun p => some (Sum.inl p)) (fun p => some (Sum.inr p)) = some (.inr (f', acc ++ ys)) ∧ All2 EqE es ys := by
 have hm : maxLen = 9223372036854775807 := rfl
 intro es
 induction es with
 | nil =>
  intro m i p a f acc hmm h0 h1 hd ht ha he hp hc
  obtain ⟨m, rfl⟩ : ∃ k, m = k + 1 := ⟨m - 1, by omega⟩
  unfold L35x0x33 S35x0x33
  simp only [bodyB, List.length_nil] at h1
  rw [decide_eq_false (show ¬ i < (bs.length : Int) by omega)]
  exact ⟨f, [], by simp, trivial⟩
 | cons x r ih =>
  intro m i p a f acc hmm h0 h1 hd ht ha he hp hc
  obtain ⟨m, rfl⟩ : ∃ k, m = k + 1 := ⟨m - 1, by omega⟩
  obtain ⟨e1, e2⟩ := errs_cons he
  have el := entX_len ha e1
  simp only [bodyB, List.length_append, List.length_cons] at h1 hc hmm
  have hd' : bs.drop i.toNat = entX x ++ bodyB r := hd
  obtain ⟨dn, ds, bn, p', q, qd, hp'⟩ := (read_back (N := N) hN hb (by omega) h0 (ht x (by simp)) ha hp e1 hd').r
  obtain ⟨nl, l, q65, l65⟩ := got_bytes (N := N) hN ha e1 qd
  have r1 : decide ((acc.length + 1) * 72 ≤ room) = true := decide_eq_true (by unfold room; omega)
  have r2 : decide (acc.length + 1 ≤ strMax) = true := decide_eq_true (by unfold strMax; omega)
  unfold L35x0x33 S35x0x33
  rw [decide_eq_true (show i < (bs.length : Int) by omega), q]
  simp only [_root_.cond_true, _root_.cond_false, bnd_eq, Option.isSome_some, getD_some, Bool.not_true, r1, r2, Bool.and_self, q65, l65]
  rw [wrapI (by omega) (by omega)]
  obtain ⟨f', ys, z1, z2⟩ := ih m (i + (entX x).length) p' _ false (acc ++ [got x dn ds bn]) (by omega) (by omega) (by omega) (by
   rw [show (i + ((entX x).length : Int)).toNat = i.toNat + (entX x).length by omega, ← List.drop_drop, hd']
   simp) (fun y hy => ht y (by simp [hy])) (ha.step e1) e2 hp' (by simp; omega)
  refine ⟨f', got x dn ds bn :: ys, ?_, got_eq qd, z2⟩
  rw [List.append_assoc] at z1
  exact z1
theorem salvage_all (hN : maxLen < N) {b : List D} (hbl : (b.length : Int) = 8 + bs.length) (hb : BytesOk bs) (hl : bs.length ≤ 10000000) : ∀ (es : List D) (m : Nat) (i : Int) (p w s : D) (a : Ab) (f : Bool) (acc : List D), es.length < m → 0 ≤ i → i ≤ bs.length → (bs.length : Int) ≤ i + (bodyB es).length → bs.drop i.toNat = (bodyB es).take (bs.length - i).toNat → (∀ x ∈ es, EntT x) → OkA a → errsA a es = 0 → Rd p a → Wk w s a acc.length → acc.length + es.length ≤ 50000 →
  ∃ n f' ys k, L37x0x21 N b false bs m (8 + i) f acc i p w (fun p => some p) = some (n, f', acc ++ ys) ∧ All2 EqE (es.take k) ys ∧ k ≤ es.length ∧ n ≤ 8 + bs.length ∧ ((bs.length : Int) = i + (bodyB es).length → k = es.length) := by
 have hm : maxLen = 9223372036854775807 := rfl
 intro es
 induction es with
 | nil =>
  intro m i p w s a f acc hmm h0 hi h1 hd ht ha he hp hw hc
  obtain ⟨m, rfl⟩ : ∃ k, m = k + 1 := ⟨m - 1, by omega⟩
  simp only [bodyB, List.length_nil] at h1
  unfold L37x0x21 S37x0x21
  rw [hbl, decide_eq_false (show ¬ 8 + i < 8 + (bs.length : Int) by omega)]
  exact ⟨8 + i, f, [], 0, by simp [bnd_eq], trivial, by simp, by omega, fun _ => rfl⟩
 | cons x r ih =>
  intro m i p w s a f acc hmm h0 hi h1 hd ht ha he hp hw hc
  obtain ⟨m, rfl⟩ : ∃ k, m = k + 1 := ⟨m - 1, by omega⟩
  obtain ⟨e1, e2⟩ := errs_cons he
  have el := entX_len ha e1
  simp only [bodyB, List.length_append, List.length_cons] at h1 hc hmm hd
  unfold L37x0x21 S37x0x21
  rw [hbl]
  by_cases hend : i = bs.length
  ·rw [decide_eq_false (show ¬ 8 + i < 8 + (bs.length : Int) by omega)]
   refine ⟨8 + i, f, [], 0, by simp [bnd_eq], trivial, by simp, by omega, fun h => ?_⟩
   simp only [bodyB, List.length_append] at h
   omega
  ·rw [decide_eq_true (show 8 + i < 8 + (bs.length : Int) by omega), decide_eq_true (show (acc.length : Int) < 50000 by omega)]
   by_cases hfit : i + (entX x).length ≤ bs.length
   ·have hd' : bs.drop i.toNat = entX x ++ (bodyB r).take (bs.length - (i + (entX x).length)).toNat := by
     rw [hd, List.take_append, List.take_of_length_le (by omega)]
     congr 2
     omega
    obtain ⟨dn, ds, bn, p', q, qd, hp'⟩ := (read_back (N := N) hN hb (by omega) h0 (ht x (by simp)) ha hp e1 hd').r
    obtain ⟨nl, l, q65, l65⟩ := got_bytes (N := N) hN ha e1 qd
    have hg := got_eq (dn := dn) (bn := bn) qd
    have hgd : EntD (got x dn ds bn) := entD_of hg (ht x (by simp)).entD
    have hge : errE a (got x dn ds bn) = 0 := by rw [← hg.err]; exact e1
    obtain ⟨w', s', t1, _, hw'⟩ := take_abs (N := N) hN hw hgd (by omega) (by omega) hge
    have hstep : stepA a (got x dn ds bn) = stepA a x := (hg.step a).symm
    have t1' : G72x0 N (kX x) (sX x) (oX x) ds (bX x) w = some (timeC a (kX (got x dn ds bn)) (sX (got x dn ds bn)) (oX (got x dn ds bn)) (bX (got x dn ds bn)), w') := t1
    have e28 : G37x0x28 N true (kX x) (sX x) (oX x) ds (bX x) w = some false := by
     unfold G37x0x28 F37x0x28
     have : G71x0 N (kX x) (sX x) (oX x) ds (bX x) w = some 0 := by
      have e := G71x0_eq (N := N) (kind := kX (got x dn ds bn)) (slot := sX (got x dn ds bn)) (off := oX (got x dn ds bn)) (ds := dX (got x dn ds bn)) (data := bX (got x dn ds bn)) hN hw.sim hgd
      rw [err_of hw.pp hw.lp] at e
      have e' : G71x0 N (kX x) (sX x) (oX x) ds (bX x) w = some (errE a (got x dn ds bn)) := e
      rw [e', hge]
     rw [this]; rfl
    have r1 : decide ((acc.length + 1) * 72 ≤ room) = true := decide_eq_true (by unfold room; omega)
    have r2 : decide (acc.length + 1 ≤ strMax) = true := decide_eq_true (by unfold strMax; omega)
    rw [q]
    simp only [_root_.cond_true, _root_.cond_false, bnd_eq, Option.isSome_some, getD_some, e28, t1', r1, r2, Bool.and_self, q65, l65]
    rw [wrapI (x := 8 + i + ((entX x).length : Int)) (by omega) (by omega), show 8 + i + ((entX x).length : Int) = 8 + (i + (entX x).length) by omega]
    obtain ⟨n, f', ys, k, z1, z2, z3, z4, z5⟩ := ih m (i + (entX x).length) p' w' s' (stepA a x) false (acc ++ [got x dn ds bn]) (by omega) (by omega) (by omega) (by omega) (by
     rw [show (i + ((entX x).length : Int)).toNat = i.toNat + (entX x).length by omega, ← List.drop_drop, hd']
     simp) (fun y hy => ht y (by simp [hy])) (ha.step e1) e2 hp' (by
     have := hw'
     rw [show stepD a (kX (got x dn ds bn)) (sX (got x dn ds bn)) (oX (got x dn ds bn)) (dX (got x dn ds bn)) (bX (got x dn ds bn)) = stepA a x from hstep] at this
     simpa using this) (by simp; omega)
    refine ⟨n, f', got x dn ds bn :: ys, k + 1, ?_, ⟨hg, z2⟩, by simp; omega, z4, fun h => ?_⟩
    ·rw [List.append_assoc] at z1
     exact z1
    ·simp only [bodyB, List.length_append] at h
     have := z5 (by omega)
     simp; omega
   ·have hd' : bs.drop i.toNat = (entX x).take (bs.length - i).toNat := by
     rw [hd, List.take_append_of_le_length (by omega)]
    obtain ⟨t, q, qf⟩ := read_cut (N := N) hN hb (by omega) h0 (by omega) (ht x (by simp)) ha hp e1 (by omega) hd'
    have e28 : ∀ k' s' o' ds' b', G37x0x28 N false k' s' o' ds' b' w = some true := fun _ _ _ _ _ => rfl
    rw [q]
    simp only [_root_.cond_true, bnd_eq, Option.isSome_some, getD_some, qf, e28]
    refine ⟨8 + i, f, [], 0, by simp, trivial, by simp, by omega, fun h => ?_⟩
    simp only [bodyB, List.length_append] at h
    omega
end
end Go.Proofs.Ytnnofignhdijiaa

/-! Plain laws: Read of what Write wrote; Salvage of its beginning. -/
namespace Go.Proofs.Ytnnofignhdijiaa
open Go Go.AM
set_option maxRecDepth 100000
set_option maxHeartbeats 4000000
set_option linter.unusedVariables false
variable {N : Nat}
section
variable {es : List D}
theorem write_nl (hN : maxLen < N) (hes : ∀ x ∈ es, EntD x) (h : writeE es = 0) : G20x0 N es = some (false, allB es, 0) := by
 have hm : maxLen = 9223372036854775807 := rfl
 obtain ⟨nl, nl', w1, w2⟩ := write_eq (N := N) hN hes
 have hwb : writeB es = allB es := by unfold writeB; rw [h]; rfl
 rw [w1, hwb, h]
 have hf : fileE es = 0 := by
  unfold writeE at h
  cases hc : fileE es != 0 with
  | true => rw [hc] at h; simp only [_root_.cond_true] at h; exact h
  | false => simpa using hc
 obtain ⟨hl, he⟩ := fileE_ok hf
 obtain ⟨c1, c2⟩ := check_fileA (N := N) hN hes
 obtain ⟨b, z1, z2⟩ := write_loop hN hes hl N 0 Ab.start true [] OkA.start (by omega) (by omega) (by omega) (by simpa using he) (by simp)
 have y1 : G20x0x18 N es es.length 0 true [] = some (b, bodyB es) := by unfold G20x0x18; simpa using z1
 have hbl := body_len OkA.start he
 have l4 := nb4_len ((bodyB es).length : Int) true
 obtain ⟨b3, k3⟩ := concat_eq (N := N) (ps := [.l false [.i 72, .i 65, .i 82, .i 49], .l false (nb4 ((bodyB es).length : Int) true), .l b (bodyB es)]) hN (by simp) (by simp only [catL, D.items, List.length_append, List.length_nil, List.length_cons, l4]; omega)
 have ec : catL [.l false [.i 72, .i 65, .i 82, .i 49], .l false (nb4 ((bodyB es).length : Int) true), .l b (bodyB es)] = fileB es := by
  simp only [catL, D.items, fileB, List.append_assoc, List.append_nil]
 rw [ec] at k3
 have fl := fileB_len (es := es)
 have hs := G39x0_eq hN (fileB_ok hes) (by omega)
 have al := allB_len (es := es)
 have l5 := nb4_len (sumL 1 (fileB es)) true
 have r1 : decide (((fileB es).length + (nb4 (sumL 1 (fileB es)) true).length) * 1 ≤ room) = true := decide_eq_true (by unfold room; omega)
 have r2 : decide ((fileB es).length + (nb4 (sumL 1 (fileB es)) true).length ≤ strMax) = true := decide_eq_true (by unfold strMax; omega)
 have ea : fileB es ++ nb4 (sumL 1 (fileB es)) true = allB es := rfl
 have h4 : decide (((allB es).length : Int) > 4000000) = false := by
  unfold writeE at h
  rw [hf] at h
  cases h4 : decide (((allB es).length : Int) > 4000000) with
  | true => rw [h4] at h; simp at h
  | false => rfl
 unfold G20x0 F20x0 at w1
 rw [c1, hf] at w1
 have e0 : ((0 : Int) != 0) = false := rfl
 simp only [bnd_eq, Option.isSome_some, _root_.cond_true, getD_some, e0, _root_.cond_false, y1, P67_4 hN, k3, hs, r1, r2, Bool.and_self, ea, h4] at w1
 simp only [Option.some.injEq, Prod.mk.injEq] at w1
 rw [← w1.1]
 rfl
theorem allB_ok (hes : ∀ x ∈ es, EntD x) : BytesOk (allB es) := BytesOk.append (fileB_ok hes) (nb4_ok _ _)
theorem allB_body : ((allB es).take (((allB es).length : Int) - 4).toNat).drop 8 = bodyB es := by
 have fl := fileB_len (es := es)
 have al := allB_len (es := es)
 have e : (((allB es).length : Int) - 4).toNat = (fileB es).length := by omega
 rw [e]
 unfold allB
 rw [List.take_left]
 have l8 : ([.i 72, .i 65, .i 82, .i 49] ++ nb4 ((bodyB es).length : Int) true : List D).length = 8 := by rw [List.length_append, nb4_len]; rfl
 unfold fileB
 rw [← l8, List.drop_left]
theorem allB_sum : (allB es).drop (((allB es).length : Int) - 4).toNat = nb4 (sumL 1 (fileB es)) true := by
 have fl := fileB_len (es := es)
 have al := allB_len (es := es)
 have e : (((allB es).length : Int) - 4).toNat = (fileB es).length := by omega
 rw [e]
 unfold allB
 rw [List.drop_left]
theorem allB_front : ((allB es).take (((allB es).length : Int) - 4).toNat) = fileB es := by
 have fl := fileB_len (es := es)
 have al := allB_len (es := es)
 have e : (((allB es).length : Int) - 4).toNat = (fileB es).length := by omega
 rw [e]
 unfold allB
 rw [List.take_left]
theorem rd82 : Rd (V82x0 N) Ab.start := ⟨slP_of (s := zeroS) (zero82 (N := N)) (start70 (N := N)).ss, zeroS, (start70 (N := N)).ss⟩
theorem read_whole (hN : maxLen < N) (hes : ∀ x ∈ es, EntT x) (h : writeE es = 0) : ∃ b ys, G35x0 N false (allB es) = some (b, ys, 0, 0) ∧ All2 EqE es ys := by
 have hm : maxLen = 9223372036854775807 := rfl
 have hed : ∀ x ∈ es, EntD x := fun x hx => (hes x hx).entD
 have hf : fileE es = 0 := by
  unfold writeE at h
  cases hc : fileE es != 0 with
  | true => rw [hc] at h; simp only [_root_.cond_true] at h; exact h
  | false => simpa using hc
 have h4 : ¬ ((allB es).length : Int) > 4000000 := by
  intro hh
  unfold writeE at h
  rw [hf, decide_eq_true hh] at h
  simp at h
 obtain ⟨hl, he⟩ := fileE_ok hf
 have al := allB_len (es := es)
 have hb := allB_ok hed
 have w4 : IntKind.wrap .i64 (((allB es).length : Int) - 4) = ((allB es).length : Int) - 4 := wrapI (by omega) (by omega)
 have sb := sumL_bound (bs := fileB es) (a := 1) (by decide) (by decide)
 -- the head
 have h10 : G35x0x10 N (allB es) = some false := by
  unfold G35x0x10 F35x0x10
  rw [decide_eq_false (show ¬ ((allB es).length : Int) < 12 by omega), decide_eq_true (show (4 : Int) ≤ ((allB es).length : Int) by omega), decide_eq_true (show (8 : Int) ≤ ((allB es).length : Int) by omega)]
  have m4 : ((allB es).take 4).drop 0 = [.i 72, .i 65, .i 82, .i 49] := rfl
  have m8 : ((allB es).take 8).drop 4 = nb4 ((bodyB es).length : Int) true := by rfl
  have ms : (!(strD [.i 72, .i 65, .i 82, .i 49]) == ([72, 65, 82, 49] : List UInt8)) = false := by decide
  simp only [_root_.cond_false, _root_.cond_true, bnd_eq]
  rw [m4, ms, m8, G81x0_eq (N := N) hN (nb4_ok _ _) true (by rw [nb4_len]; omega), numB_nb4 true (by omega) (by omega), wrapI (x := ((allB es).length : Int) - 8) (by omega) (by omega), wrapI (by omega) (by omega)]
  simp only [_root_.cond_false, Option.isSome_some, getD_some, _root_.cond_true]
  congr 1
  simp
  omega
 obtain ⟨f', ys, z1, z2⟩ := read_all (N := N) (bs := bodyB es) hN (bodyB_ok hed) (by omega) es N 0 (V82x0 N) Ab.start true [] (by omega) (by omega) (by omega) rfl hes OkA.start he rd82 (by simp; omega)
 have y1 : G35x0x33 N (bodyB es) false (bodyB es) 0 true [] 0 (V82x0 N) = some (.inr (f', ys)) := z1
 have b1 : ((allB es).take (((allB es).length : Int)).toNat).drop (((allB es).length : Int) - 4).toNat = nb4 (sumL 1 (fileB es)) true := by
  rw [show (((allB es).length : Int)).toNat = (allB es).length by omega, List.take_length]
  exact allB_sum
 have b2 : ((allB es).take (((allB es).length : Int) - 4).toNat).drop 0 = fileB es := by rw [List.drop_zero]; exact allB_front
 have hfl := fileB_len (es := es)
 have yd : ∀ y ∈ ys, EntD y := by
  intro y hy
  obtain ⟨j, hj, rfl⟩ := List.getElem_of_mem hy
  have hlen := AM.All2.length z2
  have hx : j < es.length := by omega
  exact entD_of (z2.get2 (List.getElem?_eq_getElem hx) (List.getElem?_eq_getElem hj)) (hed _ (List.getElem_mem hx))
 obtain ⟨k1, _⟩ := check_fileA (N := N) hN yd
 have hfe := All2.fileE z2
 rw [hf] at hfe
 have hbody := allB_body (es := es)
 unfold G35x0 F35x0
 rw [decide_eq_false h4, h10, w4, b1, b2, hbody]
 have sn : (sumL 1 (fileB es) != sumL 1 (fileB es)) = false := by simp
 simp only [_root_.cond_false, bnd_eq, Option.isSome_some, getD_some, _root_.cond_true, G39x0_eq (N := N) hN (fileB_ok hed) (by omega), G81x0_eq (N := N) hN (nb4_ok (sumL 1 (fileB es)) true) true (by rw [nb4_len]; omega), numB_nb4 true sb.1 sb.2, sn]
 rw [decide_eq_true (show (0 : Int) ≤ ((allB es).length : Int) - 4 by omega), decide_eq_true (show ((allB es).length : Int) - 4 ≤ ((allB es).length : Int) by omega), decide_eq_true (Int.le_refl ((allB es).length : Int)), decide_eq_true (show (8 : Int) ≤ ((allB es).length : Int) - 4 by omega), y1]
 have e1 : inlB (some (Sum.inr (f', ys) : Sum (Int × Bool × LD) (Bool × LD))) = false := rfl
 have e2 : inrQ (some (Sum.inr (f', ys) : Sum (Int × Bool × LD) (Bool × LD))) = some (f', ys) := rfl
 simp only [Bool.and_self, _root_.cond_true, e1, e2, _root_.cond_false, Option.isSome_some, getD_some, k1, ← hfe]
 exact ⟨f', ys, rfl, z2⟩
theorem salvage_part (hN : maxLen < N) (hes : ∀ x ∈ es, EntT x) (h : writeE es = 0) {cut : Int} (c0 : 8 ≤ cut) (c1 : cut ≤ ((allB es).length : Int) - 4) : ∃ b ys n k, G37x0 N false (((allB es).take cut.toNat).drop 0) = some (b, ys, n) ∧ All2 EqE (es.take k) ys ∧ k ≤ es.length ∧ n ≤ cut ∧ (cut = ((allB es).length : Int) - 4 → k = es.length) := by
 have hm : maxLen = 9223372036854775807 := rfl
 have hed : ∀ x ∈ es, EntD x := fun x hx => (hes x hx).entD
 have hf : fileE es = 0 := by
  unfold writeE at h
  cases hc : fileE es != 0 with
  | true => rw [hc] at h; simp only [_root_.cond_true] at h; exact h
  | false => simpa using hc
 have h4 : ¬ ((allB es).length : Int) > 4000000 := by
  intro hh
  unfold writeE at h
  rw [hf, decide_eq_true hh] at h
  simp at h
 obtain ⟨hl, he⟩ := fileE_ok hf
 have al := allB_len (es := es)
 rw [List.drop_zero]
 have bl : ((allB es).take cut.toNat).length = cut.toNat := by rw [List.length_take]; omega
 have hbody : (((allB es).take cut.toNat).drop 8) = (bodyB es).take (cut - 8).toNat := by
  have := congrArg (List.take (cut - 8).toNat) (allB_body (es := es))
  rw [← this, List.take_drop, List.take_take]
  congr 2
  omega
 have hbl : ((bodyB es).take (cut - 8).toNat).length = (cut - 8).toNat := by rw [List.length_take]; omega
 have hbo : BytesOk ((bodyB es).take (cut - 8).toNat) := fun x hx => bodyB_ok hed x (List.mem_of_mem_take hx)
 obtain ⟨n, f', ys, k, z1, z2, z3, z4, z5⟩ := salvage_all (N := N) (bs := (bodyB es).take (cut - 8).toNat) (b := (allB es).take cut.toNat) hN (by omega) hbo (by omega) es N 0 (V82x0 N) (V70x0 N) zeroS Ab.start true [] (by omega) (by omega) (by omega) (by omega) (by
  show (bodyB es).take (cut - 8).toNat = _
  rw [Int.sub_zero, Int.toNat_natCast, hbl]) hes OkA.start he rd82 start70 (by simp; omega)
 have y1 : G37x0x21 N ((allB es).take cut.toNat) false ((bodyB es).take (cut - 8).toNat) 8 true [] 0 (V82x0 N) (V70x0 N) = some (n, f', ys) := z1
 refine ⟨f', ys, n, k, ?_, z2, z3, by omega, fun hc => z5 (by omega)⟩
 unfold G37x0 F37x0
 have e8 : (((allB es).take cut.toNat).take (((allB es).take cut.toNat).length : Int).toNat).drop 8 = (bodyB es).take (cut - 8).toNat := by
  rw [Int.toNat_natCast, List.take_length]
  exact hbody
 rw [decide_eq_false (show ¬ (((allB es).take cut.toNat).length : Int) < 8 by omega), decide_eq_true (show (8 : Int) ≤ (((allB es).take cut.toNat).length : Int) by omega), decide_eq_true (Int.le_refl _), e8]
 simp only [_root_.cond_false, Bool.and_self, _root_.cond_true, bnd_eq, y1, Option.isSome_some, getD_some]
end
end Go.Proofs.Ytnnofignhdijiaa

namespace Go.Proofs.Ytnnofignhdijiaa
open Go Go.AM
set_option maxRecDepth 100000
set_option maxHeartbeats 4000000
set_option linter.unusedVariables false
theorem told_ok : G17x0 18446744073709551616 = some true := by kernel_rfl
theorem all2_take {R : D → D → Prop} {xs ys : List D} (h : All2 R xs ys) : ys.length = xs.length := (AM.All2.length h).symm
theorem law8 {es : List D} (hes : ∀ x ∈ es, EntT x) (hl : es.length ≤ maxLen) (cut : Int) : G8x0 18446744073709551616 es cut = some true := by
 have hN : maxLen < 18446744073709551616 := by decide
 have hm : maxLen = 9223372036854775807 := rfl
 have hed : ∀ x ∈ es, EntD x := fun x hx => (hes x hx).entD
 by_cases h : writeE es = 0
 ·have w1 := write_nl (N := 18446744073709551616) hN hed h
  obtain ⟨b, ys, r1, r2⟩ := read_whole (N := 18446744073709551616) hN hes h
  have s1 := G28_same (N := 18446744073709551616) hN r2 hed hl
  have hf : fileE es = 0 := by
   unfold writeE at h
   cases hc : fileE es != 0 with
   | true => rw [hc] at h; simp only [_root_.cond_true] at h; exact h
   | false => simpa using hc
  have h4 : ¬ ((allB es).length : Int) > 4000000 := by
   intro hh
   unfold writeE at h
   rw [hf, decide_eq_true hh] at h
   simp at h
  have al := allB_len (es := es)
  have e19 : G8x0x19 18446744073709551616 0 0 es ys = some false := by
   unfold G8x0x19 F8x0x19
   rw [s1]; rfl
  have w4 : IntKind.wrap .i64 (((allB es).length : Int) - 4) = ((allB es).length : Int) - 4 := wrapI (by omega) (by omega)
  have e29 : G8x0x29 18446744073709551616 cut false (allB es) (bif decide (cut ≥ 8) then decide (cut ≤ ((allB es).length : Int) - 4) else false) es = some (.inr ()) := by
   by_cases hc : cut ≥ 8 ∧ cut ≤ ((allB es).length : Int) - 4
   ·obtain ⟨c0, c1⟩ := hc
    rw [decide_eq_true c0, decide_eq_true c1]
    obtain ⟨b2, zs, n, k, q1, q2, q3, q4, q5⟩ := salvage_part (N := 18446744073709551616) hN hes h c0 c1
    have hzl := all2_take q2
    rw [List.length_take] at hzl
    have hk : zs.length = k := by omega
    have et : (es.take ((zs.length : Int)).toNat).drop 0 = es.take k := by rw [List.drop_zero, Int.toNat_natCast, hk]
    have zd : ∀ y ∈ zs, EntD y := by
     intro y hy
     obtain ⟨j, hj, rfl⟩ := List.getElem_of_mem hy
     have hx : j < (es.take k).length := by rw [List.length_take]; omega
     exact entD_of (q2.get2 (List.getElem?_eq_getElem hx) (List.getElem?_eq_getElem hj)) (hed _ (List.mem_of_mem_take (List.getElem_mem hx)))
    have q2 : All2 EqE zs (es.take k) := .of_get (by rw [List.length_take]; omega) fun j x y hx hy => (q2.get2 hy hx).symm
    have s2 := G28_same (N := 18446744073709551616) hN q2 zd (by omega)
    have e31 : G8x0x31 18446744073709551616 cut (allB es) n es zs = some false := by
     unfold G8x0x31 F8x0x31
     rw [decide_eq_false (show ¬ n > cut by omega), decide_eq_false (show ¬ (zs.length : Int) > (es.length : Int) by omega), decide_eq_true (show (0 : Int) ≤ (zs.length : Int) by omega), decide_eq_true (show (zs.length : Int) ≤ (es.length : Int) by omega), et, s2, w4]
     simp only [bnd_eq, _root_.cond_false, Bool.and_self, _root_.cond_true, Option.isSome_some, getD_some, Bool.not_true]
     cases hcut : cut == ((allB es).length : Int) - 4 with
     | false => rfl
     | true =>
      have := q5 (by simpa using hcut)
      have : ((zs.length : Int) != (es.length : Int)) = false := by simp; omega
      rw [this]; rfl
    unfold G8x0x29 F8x0x29
    rw [decide_eq_true (show (0 : Int) ≤ cut by omega), decide_eq_true (show cut ≤ ((allB es).length : Int) by omega), q1]
    simp only [bnd_eq, _root_.cond_false, Bool.and_self, _root_.cond_true, Option.isSome_some, getD_some, e31]
   ·have : (bif decide (cut ≥ 8) then decide (cut ≤ ((allB es).length : Int) - 4) else false) = false := by
     by_cases c0 : cut ≥ 8
     ·rw [decide_eq_true c0, decide_eq_false (fun c1 => hc ⟨c0, c1⟩)]; rfl
     ·rw [decide_eq_false c0]; rfl
    rw [this]; rfl
  have z0 : ((0 : Int) != 0) = false := rfl
  unfold G8x0 F8x0
  simp only [bnd_eq, w1, Option.isSome_some, _root_.cond_true, getD_some, z0, _root_.cond_false, r1, e19, w4, e29, inlB, inrQ, told_ok]
 ·obtain ⟨nl, nl2, w1, w2⟩ := write_eq (N := 18446744073709551616) hN hed
  have hb : (writeE es != 0) = true := by simpa using h
  have e13 : G8x0x13 18446744073709551616 (writeE es) (writeE es) = some true := by
   unfold G8x0x13 F8x0x13
   simp only [bnd_eq, beq_self_eq_true, _root_.cond_true, told_ok, Option.isSome_some, getD_some]
  unfold G8x0 F8x0
  simp only [bnd_eq, w1, w2, Option.isSome_some, _root_.cond_true, getD_some, hb, e13]
theorem Try.own : ownKnob Try.prog.godebug = none := by kernel_rfl
theorem Try.laidOut : laidOutB Try.prog = true := by kernel_rfl
theorem callLaw (dss : List (List D)) (h : All2 (ArgOk Try.prog 6) Try.f8.params.toList dss) : CallOk Try.prog 8 (argVs Try.prog Try.f8.params.toList dss) [] ([.c (.b true)], []) := by
 have hp : Try.f8.params.toList = [33, 3] := by kernel_rfl
 rw [hp] at h ⊢
 match dss, h with
 | [d0, d1], ⟨h0, h1, _⟩ =>
  obtain ⟨nl, es, rfl, hnl, hl, hes⟩ := arg33 h0
  obtain ⟨g, rfl, hg⟩ := arg3 h1
  refine ok8x0 18446744073709551616 _ _ (A8x0 18446744073709551616 [.b nl, .l es, .i g]) (by kernel_rfl) _ ?_
  have e : A8x0 18446744073709551616 [.b nl, .l es, .i g] = bnd (G8x0 18446744073709551616 es g) fun q => [(q.isSome, ([.c (.b (q.getD default))], []))] := by kernel_rfl
  rw [e, law8 hes hl g]
  rfl
theorem lawLifted (os : Os) (started : os.Started) (H : Type) (enc : TypeId × Value → H) :
  ReturnsInHanded {} Try.checked os 8 .any (Rows.recordBytesComeBackSpec.pre6 enc Try.prog Try.f8 Rows.recordBytesComeBackRow.domain false) (Rows.recordBytesComeBackSpec.post enc Try.prog Try.f8 false true false false) := by
 refine returnsInHanded_of_change (C := Try.checked) Try.own started (by kernel_rfl) Try.func8
  (ChangeSpec.witness6 (enc := enc) (C := Try.checked) false ⟨#[], #[.agg #[.slice none 0 0], .int .i64 0], []⟩ 8 (by kernel_rfl) (by kernel_rfl) (by kernel_rfl) (by kernel_rfl)) ?_
 intro W base args ds gs before hval hW _ _
 exact law_call (m := 6) (tb := 4) Try.laidOut rfl (by kernel_rfl) (by kernel_rfl) (by kernel_rfl) (fun l hl => by
  rw [show Try.f8.params.size = 2 by kernel_rfl] at hl
  match l, hl with
  | [_, _], _ => rfl) callLaw hval hW
theorem bytes_holds : Rows.RecordBytesComeBackSaid :=
 OpenClaim.holds_of_wide 8 Try.f8 rfl rfl rfl rfl rfl rfl rfl ⟨rfl, rfl, rfl, rfl, rfl⟩ rfl rfl rfl rfl rfl (by kernel_rfl) Try.func8 (by kernel_rfl)
  (of_decide_eq_true (by kernel_rfl)) (by unfold Func.isWrapper; first | (rw [if_pos (by decide +kernel)]; kernel_rfl) | (rw [if_neg (by decide +kernel)]; exact ⟨rfl, rfl⟩))
  (fun os started H enc _ => lawLifted os started H enc)
end Go.Proofs.Ytnnofignhdijiaa

