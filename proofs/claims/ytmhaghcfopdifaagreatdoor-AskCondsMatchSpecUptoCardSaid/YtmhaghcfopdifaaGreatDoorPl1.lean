/- A part of a proof of a law: lemmas. Conditions: those of each lemma. -/
import Derived.Test.YtmhaghcfopdifaaGreatDoorAPp1
import Derived.KernelRfl
import Derived.Test.YtmhaghcfopdifaaGreatDoorCards
import Derived.Test.YtmhaghcfopdifaaGreatDoorTie
import Derived.Deep.DeepHandedRow
import Derived.ProofKit
set_option linter.all false
set_option maxRecDepth 100000
namespace Go.Proofs.YtmhaghcfopdifaaGreatDoor
open Go Go.AM
set_option maxRecDepth 100000
set_option maxHeartbeats 4000000
variable {N : Nat}
def ltr (n : Int) : Bool := decide (97 ≤ n ∧ n ≤ 122 ∨ 65 ≤ n ∧ n ≤ 90 ∨ 48 ≤ n ∧ n ≤ 57 ∨ n = 45 ∨ n = 95 ∨ n = 46)
def nameB (s : List UInt8) : Bool := s.all (fun c => ltr (c.toNat : Int)) && decide (1 ≤ s.length ∧ s.length ≤ 60)
def prB (s : List UInt8) : Bool := s.all (fun c => decide (32 ≤ (c.toNat : Int) ∧ (c.toNat : Int) ≤ 126))
def inI (n a b : Int) : Bool := decide (a ≤ n ∧ n ≤ b)
theorem V109x0_eq (n a b : Int) : V109x0 N n a b = inI n a b := by
 unfold V109x0 F109x0 inI
 rw [Bool.eq_iff_iff]; simp
theorem V200x0_eq (n a b : Int) : V200x0 N n a b = inI n a b := by
 unfold V200x0 F200x0 inI
 rw [Bool.eq_iff_iff]; simp
theorem V114x0_eq (n a b : Int) : V114x0 N n a b = !inI n a b := by
 unfold V114x0 F114x0 inI
 rw [Bool.eq_iff_iff]; simp <;> omega
theorem V123x0_eq (n : Int) : V123x0 N n = inI n 1 7 := by
 unfold V123x0 F123x0
 rw [bnd_eq, V109x0_eq]
theorem V124x0_eq (n : Int) : V124x0 N n = inI n 1 7 := by
 unfold V124x0 F124x0 inI
 rw [Bool.eq_iff_iff]; simp
theorem wrapByte (c : UInt8) : IntKind.wrap .i64 (c.toNat : Int) = c.toNat := wrapI (by omega) (by have := c.toNat_lt; omega)
theorem G118x0_eq (hN : maxLen < N) {s : List UInt8} (hs : s.length ≤ maxLen) : G118x0 N s = some (nameB s) := by
 have h : G118x0x6 N s 0 = some (bif s.all (fun c => ltr (c.toNat : Int)) then .inr () else .inl ()) := by
  unfold G118x0x6
  refine (for_ind (0 : UInt8) (S := fun w kr => S118x0x6 N s w kr _ _) (L := fun m w => L118x0x6 N s m w _ _) (fun m w => rfl) (fun _ l => some (bif l.all (fun c => ltr (c.toNat : Int)) then .inr () else .inl ())) hs ?_ ?_ hN).trans rfl
  ·intro kr; simp [S118x0x6]
  ·intro w kr h0 h1 hw hi hk
   simp only [S118x0x6, decide_eq_true h1, _root_.cond_true, hi, bnd_eq, hw, hk, List.all_cons]
   generalize ((s.getD w.toNat 0).toNat : Int) = n
   refine (cond_congr (c' := !ltr n) ?_).trans ?_
   ·rw [Bool.eq_iff_iff]; simp [ltr]; omega
   ·cases ltr n <;> rfl
 unfold G118x0 F118x0
 rw [h]
 unfold nameB
 cases s.all (fun c => ltr (c.toNat : Int)) with
 | false => rfl
 | true =>
  simp only [bnd_eq, inlB_inr, inrQ_inr, _root_.cond_true, _root_.cond_false, Option.isSome_some, Bool.true_and]
  congr 1
  rw [Bool.eq_iff_iff]; simp; omega
theorem G117x0_eq (hN : maxLen < N) {s : List UInt8} (hs : s.length ≤ maxLen) : G117x0 N s = some (nameB s) := by
 have h : G117x0x6 N s s.length 0 = some (bif s.all (fun c => ltr (c.toNat : Int)) then .inr () else .inl ()) := by
  unfold G117x0x6
  refine (for_ind (0 : UInt8) (S := fun w kr => S117x0x6 N s s.length w kr _ _) (L := fun m w => L117x0x6 N s s.length m w _ _) (fun m w => rfl) (fun _ l => some (bif l.all (fun c => ltr (c.toNat : Int)) then .inr () else .inl ())) hs ?_ ?_ hN).trans rfl
  ·intro kr; simp [S117x0x6]
  ·intro w kr h0 h1 hw hi hk
   simp only [S117x0x6, decide_eq_true h1, _root_.cond_true, hi, bnd_eq, hw, hk, List.all_cons, V117x0x19, F117x0x19, V210x0, F210x0]
   generalize ((s.getD w.toNat 0).toNat : Int) = n
   refine (cond_congr (c' := !ltr n) ?_).trans ?_
   ·rw [Bool.eq_iff_iff]; simp [ltr]; omega
   ·cases ltr n <;> rfl
 unfold G117x0 F117x0
 rw [h]
 unfold nameB
 cases s.all (fun c => ltr (c.toNat : Int)) with
 | false => rfl
 | true =>
  simp only [bnd_eq, inlB_inr, inrQ_inr, _root_.cond_true, _root_.cond_false, Option.isSome_some, Bool.true_and]
  congr 1
  rw [Bool.eq_iff_iff]; simp; omega
def showB (s : List UInt8) : Bool := prB s && decide (1 ≤ s.length ∧ s.length ≤ 60)
theorem G198x0_eq (hN : maxLen < N) {s : List UInt8} (hs : s.length ≤ maxLen) : G198x0 N s = some (showB s) := by
 have h : G202x0x6 N s s.length 0 = some (bif prB s then .inr () else .inl ()) := by
  unfold G202x0x6
  refine (for_ind (0 : UInt8) (S := fun w kr => S202x0x6 N s s.length w kr _ _) (L := fun m w => L202x0x6 N s s.length m w _ _) (fun m w => rfl) (fun _ l => some (bif prB l then .inr () else .inl ())) hs ?_ ?_ hN).trans rfl
  ·intro kr; simp [S202x0x6, prB]
  ·intro w kr h0 h1 hw hi hk
   simp only [S202x0x6, decide_eq_true h1, _root_.cond_true, hi, bnd_eq, hw, hk, prB, List.all_cons, wrapByte, V200x0_eq, inI]
   cases decide (32 ≤ ((s.getD w.toNat 0).toNat : Int) ∧ ((s.getD w.toNat 0).toNat : Int) ≤ 126) <;> rfl
 have h2 : G202x0 N s = some (prB s && decide (s.length ≤ 60)) := by
  unfold G202x0 F202x0
  rw [h]
  cases prB s with
  | false => rfl
  | true =>
   simp only [bnd_eq, inlB_inr, inrQ_inr, _root_.cond_true, _root_.cond_false, Option.isSome_some, Bool.true_and]
   congr 1
   rw [Bool.eq_iff_iff]; simp; omega
 unfold G198x0 F198x0 G198x0x4 F198x0x4
 rw [h2]
 unfold showB
 cases s with
 | nil => simp [bnd_eq, prB]
 | cons c r =>
  have : ((c :: r) == ([] : List UInt8)) = false := rfl
  rw [this]
  simp only [bnd_eq, Bool.not_false, _root_.cond_true, Option.isSome_some, getD_some]
  congr 1
  rw [Bool.eq_iff_iff]; simp
theorem G199x0x45_eq (hN : maxLen < N) {s : List UInt8} (hs : s.length ≤ maxLen) : G199x0x45 N s 0 = some (bif prB s then .inr () else .inl ()) := by
 unfold G199x0x45
 refine (for_ind (0 : UInt8) (S := fun w kr => S199x0x45 N s w kr _ _) (L := fun m w => L199x0x45 N s m w _ _) (fun m w => rfl) (fun _ l => some (bif prB l then .inr () else .inl ())) hs ?_ ?_ hN).trans rfl
 ·intro kr; simp [S199x0x45, prB]
 ·intro w kr h0 h1 hw hi hk
  simp only [S199x0x45, decide_eq_true h1, _root_.cond_true, hi, bnd_eq, hw, hk, prB, List.all_cons, wrapByte, V114x0_eq, inI]
  cases decide (32 ≤ ((s.getD w.toNat 0).toNat : Int) ∧ ((s.getD w.toNat 0).toNat : Int) ≤ 126) <;> rfl
end Go.Proofs.YtmhaghcfopdifaaGreatDoor

namespace Go.Proofs.YtmhaghcfopdifaaGreatDoor
open Go Go.AM
set_option maxRecDepth 100000
set_option maxHeartbeats 4000000
variable {N : Nat}
def firstE (e : Int → Int) : Int → List D → Int
 | _, [] => 0
 | w, _ :: r => bif e w != 0 then e w else firstE e (w + 1) r
def wayE (n : Int) : Sum Int Unit := bif n != 0 then .inl n else .inr ()
theorem wayE_cons {e : Int → Int} {w : Int} {x : D} {l : List D} : wayE (firstE e w (x :: l)) = bif e w != 0 then .inl (e w) else wayE (firstE e (w + 1) l) := by
 simp only [firstE]
 cases h : e w != 0 with
 | true => simp only [_root_.cond_true, wayE, h]
 | false => rfl
def leB (a b : List UInt8) : Bool := Op.bytesLess a b || a == b
def tgE (xs : List D) (w : Int) : Int := bif !nameB (xs.getD w.toNat (.i 0)).toS then 8 else bif (bif decide (w > 0) then leB (xs.getD w.toNat (.i 0)).toS (xs.getD (w - 1).toNat (.i 0)).toS else false) then 10 else 0
section
variable {xs : List D} {w : Int}
theorem prevG (h0 : 0 ≤ w) (h1 : w < xs.length) (hl : xs.length ≤ maxLen) : IntKind.wrap .i64 (w - 1) = w - 1 ∧ (bif (inB (w - 1) xs.length) then true else (!((decide (w > 0)) == true))) = true := by
 have hm : maxLen = 9223372036854775807 := rfl
 refine ⟨wrapI (by omega) (by omega), ?_⟩
 by_cases hw : w = 0
 ·subst hw
  cases inB ((0 : Int) - 1) xs.length <;> rfl
 ·rw [inB_of (by omega) (by omega)]; rfl
theorem G33x0x48_eq (hN : maxLen < N) (hl : xs.length ≤ maxLen) (hx : ∀ j : Nat, ((xs.getD j (.i 0)).toS).length ≤ maxLen) : G33x0x48 N xs xs.length xs 0 = some (wayE (firstE (tgE xs) 0 xs)) := by
 unfold G33x0x48
 refine (for_ind (.i 0 : D) (S := fun w kr => S33x0x48 N xs xs.length xs w kr _ _) (L := fun m w => L33x0x48 N xs xs.length xs m w _ _) (fun m w => rfl) (fun w l => some (wayE (firstE (tgE xs) w l))) hl ?_ ?_ hN).trans rfl
 ·intro kr; simp [S33x0x48, firstE, wayE]
 ·intro w kr h0 h1 hw hi hk
  obtain ⟨e1, e2⟩ := prevG h0 h1 hl
  simp only [S33x0x48, decide_eq_true h1, _root_.cond_true, hi, bnd_eq, hw, hk, G117x0_eq hN (hx w.toNat), Option.isSome_some, getD_some, wayE_cons, e1, e2]
  unfold tgE leB
  cases nameB (xs.getD w.toNat (.i 0)).toS with
  | false => rfl
  | true => cases (bif decide (w > 0) then (Op.bytesLess (xs.getD w.toNat (.i 0)).toS (xs.getD (w - 1).toNat (.i 0)).toS || (xs.getD w.toNat (.i 0)).toS == (xs.getD (w - 1).toNat (.i 0)).toS) else false) <;> rfl
theorem G34x0x30_eq (hN : maxLen < N) (hl : xs.length ≤ maxLen) (hx : ∀ j : Nat, ((xs.getD j (.i 0)).toS).length ≤ maxLen) : G34x0x30 N xs xs.length xs 0 = some (wayE (firstE (tgE xs) 0 xs)) := by
 unfold G34x0x30
 refine (for_ind (.i 0 : D) (S := fun w kr => S34x0x30 N xs xs.length xs w kr _ _) (L := fun m w => L34x0x30 N xs xs.length xs m w _ _) (fun m w => rfl) (fun w l => some (wayE (firstE (tgE xs) w l))) hl ?_ ?_ hN).trans rfl
 ·intro kr; simp [S34x0x30, firstE, wayE]
 ·intro w kr h0 h1 hw hi hk
  obtain ⟨e1, e2⟩ := prevG h0 h1 hl
  simp only [S34x0x30, decide_eq_true h1, _root_.cond_true, hi, bnd_eq, hw, hk, G118x0_eq hN (hx w.toNat), Option.isSome_some, getD_some, wayE_cons, e1, e2]
  unfold tgE leB
  cases nameB (xs.getD w.toNat (.i 0)).toS with
  | false => rfl
  | true => cases (bif decide (w > 0) then (Op.bytesLess (xs.getD w.toNat (.i 0)).toS (xs.getD (w - 1).toNat (.i 0)).toS || (xs.getD w.toNat (.i 0)).toS == (xs.getD (w - 1).toNat (.i 0)).toS) else false) <;> rfl
end
theorem G33x0x24_eq (hN : 4 < N) (a b c d : Int) : G33x0x24 N 4 [(.i a), (.i b), (.i c), (.i d)] 0 = some (bif inI a 0 10000000000000 && inI b 0 10000000000000 && inI c 0 10000000000000 && inI d 0 10000000000000 then .inr () else .inl ()) := by
 obtain ⟨M, rfl⟩ : ∃ M, N = M + 5 := ⟨N - 5, by omega⟩
 have w1 : IntKind.wrap .i64 (0 + 1) = 1 := wrapI (by omega) (by omega)
 have w2 : IntKind.wrap .i64 (1 + 1) = 2 := wrapI (by omega) (by omega)
 have w3 : IntKind.wrap .i64 (2 + 1) = 3 := wrapI (by omega) (by omega)
 have w4 : IntKind.wrap .i64 (3 + 1) = 4 := wrapI (by omega) (by omega)
 have e : ∀ K, L33x0x24 K (R := Sum Unit Unit) 4 [(.i a), (.i b), (.i c), (.i d)] (M + 5) 0 (fun p => some (.inl p)) (fun p => some (.inr p)) = some (bif inI a 0 10000000000000 && inI b 0 10000000000000 && inI c 0 10000000000000 && inI d 0 10000000000000 then .inr () else .inl ()) := by
  intro K
  have w1' := w1
  have w2' := w2
  have w3' := w3
  have w4' := w4
  simp at w1' w2' w3' w4'
  simp [L33x0x24, S33x0x24, V109x0_eq, bnd_eq, D.toI, inB, w1', w2', w3', w4']
  cases inI a 0 10000000000000 <;> cases inI b 0 10000000000000 <;> cases inI c 0 10000000000000 <;> cases inI d 0 10000000000000 <;> rfl
 unfold G33x0x24
 exact e _
def rowE (v0 : List UInt8) (v1 v2 v3 v4 v5 v6 : Int) (v8 : List D) : Int :=
 bif !nameB v0 then 8 else bif !inI v1 1 5 then 7 else bif !(inI v2 0 86399999999 && (inI v3 0 10000000000000 && inI v4 0 10000000000000 && inI v5 0 10000000000000 && inI v6 0 10000000000000)) then 9 else bif decide ((v8.length : Int) > 20) then 3 else firstE (tgE v8) 0 v8
theorem wayE_some {n : Int} {k : Int → Option Int} {z : Option Int} : (bif inlB (some (wayE n)) then k (inlV (some (wayE n))) else bif (inrQ (some (wayE n))).isSome then k 0 else z) = k n := by
 unfold wayE
 cases h : n != 0 with
 | true => rfl
 | false =>
  have : n = 0 := by simpa using h
  subst this; rfl
section
variable {v0 : List UInt8} {v1 v2 v3 v4 v5 v6 : Int} {v8 : List D}
theorem G33x0_eq (hN : maxLen < N) (h0 : v0.length ≤ maxLen) (hl : v8.length ≤ maxLen) (hx : ∀ j : Nat, ((v8.getD j (.i 0)).toS).length ≤ maxLen) : G33x0 N v0 v1 v2 v3 v4 v5 v6 v8 = some (rowE v0 v1 v2 v3 v4 v5 v6 v8) := by
 have hm : maxLen = 9223372036854775807 := rfl
 unfold G33x0 F33x0 rowE
 rw [G117x0_eq hN h0, G33x0x24_eq (by omega), G33x0x48_eq hN hl hx]
 simp only [bnd_eq, Option.isSome_some, _root_.cond_true, getD_some, V109x0_eq]
 cases nameB v0 with
 | false => rfl
 | true =>
 cases inI v1 1 5 with
 | false => rfl
 | true =>
 cases inI v2 0 86399999999 with
 | false => rfl
 | true =>
 cases (inI v3 0 10000000000000 && inI v4 0 10000000000000 && inI v5 0 10000000000000 && inI v6 0 10000000000000) with
 | false => rfl
 | true =>
 cases decide ((v8.length : Int) > 20) with
 | true => rfl
 | false => exact wayE_some
theorem V34x0x16_eq : V34x0x16 N v2 v3 v4 v5 v6 = !(inI v2 0 86399999999 && (inI v3 0 10000000000000 && inI v4 0 10000000000000 && inI v5 0 10000000000000 && inI v6 0 10000000000000)) := by
 unfold V34x0x16 F34x0x16
 simp only [bnd_eq, V114x0_eq]
 cases inI v2 0 86399999999 <;> cases inI v3 0 10000000000000 <;> cases inI v4 0 10000000000000 <;> cases inI v5 0 10000000000000 <;> cases inI v6 0 10000000000000 <;> rfl
theorem G34x0_eq (hN : maxLen < N) (h0 : v0.length ≤ maxLen) (hl : v8.length ≤ maxLen) (hx : ∀ j : Nat, ((v8.getD j (.i 0)).toS).length ≤ maxLen) : G34x0 N v0 v1 v2 v3 v4 v5 v6 v8 = some (rowE v0 v1 v2 v3 v4 v5 v6 v8) := by
 unfold G34x0 F34x0 rowE
 rw [G118x0_eq hN h0, G34x0x30_eq hN hl hx, V34x0x16_eq]
 simp only [bnd_eq, Option.isSome_some, _root_.cond_true, getD_some, V114x0_eq]
 cases nameB v0 with
 | false => rfl
 | true =>
 cases inI v1 1 5 with
 | false => rfl
 | true =>
 cases (inI v2 0 86399999999 && (inI v3 0 10000000000000 && inI v4 0 10000000000000 && inI v5 0 10000000000000 && inI v6 0 10000000000000)) with
 | false => rfl
 | true =>
 cases decide ((v8.length : Int) > 20) with
 | true => rfl
 | false => exact wayE_some
end
theorem G101x0_eq (hN : 2 < N) (a b : Int) : G101x0 N [(.i a), (.i b)] = some (bif a != 0 then a else b) := by
 obtain ⟨M, rfl⟩ : ∃ M, N = M + 3 := ⟨N - 3, by omega⟩
 unfold G101x0 F101x0 G101x0x9
 have w1 : IntKind.wrap .i64 (0 + 1) = 1 := wrapI (by omega) (by omega)
 have w2 : IntKind.wrap .i64 (1 + 1) = 2 := wrapI (by omega) (by omega)
 have e : ∀ K, L101x0x9 K (R := Sum Int Unit) 0 [(.i a), (.i b)] (([(.i a), (.i b)] : List D).length : Int) (M + 3) 0 (fun p => some (.inl p)) (fun p => some (.inr p)) = some (bif a != 0 then .inl a else bif b != 0 then .inl b else .inr ()) := by
  intro K
  have w1' := w1
  have w2' := w2
  simp at w1' w2'
  simp [L101x0x9, S101x0x9, D.toI, inB, w1', w2']
  cases a != 0 <;> cases b != 0 <;> rfl
 rw [e]
 simp only [bnd_eq]
 cases ha : a != 0 with
 | true => rfl
 | false =>
  cases hb : b != 0 with
  | true => rfl
  | false =>
   have : b = 0 := by simpa using hb
   subst this; rfl
end Go.Proofs.YtmhaghcfopdifaaGreatDoor

namespace Go.Proofs.YtmhaghcfopdifaaGreatDoor
open Go Go.AM
set_option maxRecDepth 100000
set_option maxHeartbeats 4000000
variable {N : Nat}
theorem szD_pos (x : D) : 1 ≤ szD x := by
 cases x <;> simp [szD]
theorem szDs_mem : ∀ {l : List D} {x : D}, x ∈ l → szD x ≤ szDs l
 | y :: l, x, h => by
  simp only [szDs]
  rcases List.mem_cons.1 h with rfl | h
  ·omega
  ·have := szDs_mem h; omega
theorem szDs_len : ∀ l : List D, l.length ≤ szDs l
 | [] => Nat.zero_le _
 | x :: l => by have := szDs_len l; have := szD_pos x; simp only [szDs, List.length_cons]; omega
theorem szD_cell (x : D) (j : Nat) : x.cell j = .i 0 ∨ szD (x.cell j) < szD x := by
 cases x with
 | a cs =>
  simp only [D.cell, szD]
  by_cases hj : j < cs.length
  ·right
   have : cs.getD j (.i 0) ∈ cs := by rw [List.getD_eq_getElem?_getD, List.getElem?_eq_getElem hj]; exact List.getElem_mem hj
   have := szDs_mem this
   omega
  ·left; rw [List.getD_eq_getElem?_getD, List.getElem?_eq_none (by omega)]; rfl
 | _ => left; rfl
theorem kids_lt (x : D) (j : Nat) : szDs (x.cell j).items < szD x := by
 have h1 := szD_pos x
 rcases szD_cell x j with h | h
 ·rw [h]; exact h1
 ·cases hc : x.cell j with
  | l nl xs => rw [hc] at h; simp only [szD] at h; simp only [D.items]; omega
  | _ => exact h1
theorem text_lt (x : D) (j : Nat) : (x.cell j).toS.length < szD x := by
 have h1 := szD_pos x
 rcases szD_cell x j with h | h
 ·rw [h]; exact h1
 ·cases hc : x.cell j with
  | s l => rw [hc] at h; simp only [szD] at h; simp only [D.toS]; omega
  | _ => exact h1
theorem getD_memD {l : List D} {w : Int} (h0 : 0 ≤ w) (h1 : w < l.length) : l.getD w.toNat (.i 0) ∈ l := by
 have hl : w.toNat < l.length := by omega
 rw [List.getD_eq_getElem?_getD, List.getElem?_eq_getElem hl]; exact List.getElem_mem hl
theorem loop_indE {A X : Type} {S : A → (A → X) → X} {L : Nat → A → X} (hL : ∀ m a, L (m + 1) a = S a (L m)) (P : A → X → Prop) (Inv : A → Prop) (μ : A → Nat)
  (h : ∀ a kr, Inv a → (∀ a', Inv a' → μ a' < μ a → P a' (kr a')) → P a (S a kr)) : ∀ (m : Nat) (a : A), Inv a → μ a < m → P a (L m a) := by
 intro m
 induction m with
 | zero => intro a _ h; omega
 | succ m ih => intro a ha hm; rw [hL]; exact h a (L m) ha fun a' h1 h2 => ih a' h1 (by omega)
def cnt : Nat → List D → Nat
 | 0, _ => 1
 | m + 1, l => 1 + (l.map fun x => cnt m (x.cell 5).items).sum
theorem sum_le {l : List D} {f : D → Nat} (h : ∀ x ∈ l, f x ≤ szD x) : (l.map f).sum ≤ szDs l := by
 induction l with
 | nil => simp [szDs]
 | cons x l ih =>
  have h1 := h x (by simp)
  have h2 := ih fun y hy => h y (by simp [hy])
  simp only [List.map_cons, List.sum_cons, szDs]
  omega
theorem cnt_le : ∀ (m : Nat) (l : List D), cnt m l ≤ szDs l + 1
 | 0, l => by simp [cnt]
 | m + 1, l => by
  have := sum_le (l := l) (f := fun x => cnt m (x.cell 5).items) fun x _ => by
   have h1 := cnt_le m (x.cell 5).items
   have h2 := kids_lt x 5
   omega
  simp only [cnt]
  omega
theorem cnt_stable : ∀ (m m' : Nat) (l : List D), szDs l < m → szDs l < m' → cnt m l = cnt m' l
 | 0, _, _, h, _ => by omega
 | _, 0, _, _, h => by omega
 | m + 1, m' + 1, l, h, h' => by
  simp only [cnt]
  congr 2
  refine List.map_congr_left fun x hx => ?_
  have h1 := kids_lt x 5
  have h2 := szDs_mem hx
  exact cnt_stable m m' _ (by omega) (by omega)
def cn (l : List D) : Nat := cnt (szDs l + 1) l
theorem cn_pos (l : List D) : 1 ≤ cn l := by unfold cn; simp only [cnt]; omega
theorem cn_le (l : List D) : cn l ≤ szDs l + 1 := cnt_le _ _
theorem cn_eq (l : List D) : cn l = 1 + (l.map fun x => cn (x.cell 5).items).sum := by
 show 1 + _ = _
 congr 2
 refine List.map_congr_left fun x hx => ?_
 have h1 := kids_lt x 5
 have h2 := szDs_mem hx
 exact cnt_stable _ _ _ (by omega) (by omega)
abbrev cns (l : List D) : Nat := (l.map fun x => cn (x.cell 5).items).sum
theorem cns_le (l : List D) : cns l ≤ szDs l := sum_le fun x _ => by
 have h1 := cn_le (x.cell 5).items
 have h2 := kids_lt x 5
 omega
theorem R104_eq (hN : maxLen < N) : ∀ (m : Nat) (v0 v1 v2 v3 : Int) (v4 : List UInt8) (v5 : Bool) (v6 : List D), szDs v6 < m → szDs v6 ≤ 2097152 → R104x1 N m v0 v1 v2 v3 v4 v5 v6 = some (cn v6 : Int)
 | 0, _, _, _, _, _, _, _, h, _ => by omega
 | m + 1, v0, v1, v2, v3, v4, v5, v6, h, hM => by
  have hm : maxLen = 9223372036854775807 := rfl
  have hlen := szDs_len v6
  have hall := cns_le v6
  show G104x1 N (R104x1 N m) v0 v1 v2 v3 v4 v5 v6 = _
  unfold G104x1 F104x1
  have e : G104x1x9 N (R104x1 N m) v6 (v6.length : Int) 1 0 = some (1 + (cns v6 : Int)) := by
   unfold G104x1x9
   have := loop_ind (A := Int × Int) (S := fun a kr => S104x1x9 N (R104x1 N m) v6 (v6.length : Int) a.1 a.2 (fun x y => kr (x, y)) (fun p => some p)) (L := fun f a => L104x1x9 N (R104x1 N m) v6 (v6.length : Int) f a.1 a.2 (fun p => some p)) (fun f a => rfl)
    (fun a => some (a.1 + (cns (v6.drop a.2.toNat) : Int))) (fun a => 0 ≤ a.2 ∧ a.2 ≤ v6.length ∧ 0 ≤ a.1 ∧ a.1 + (cns (v6.drop a.2.toNat) : Int) ≤ 2097153) (fun a => (v6.length - a.2).toNat) (fun ⟨a, w⟩ kr ⟨h0, h1, h2, h3⟩ ih => by
     simp only at h0 h1 h2 h3 ⊢
     by_cases hw : w < v6.length
     ·have hd := drop_at (.i 0 : D) h0 hw
      rw [hd] at h3 ⊢
      simp only [cns, List.map_cons, List.sum_cons] at h3 ⊢
      have hx := getD_memD h0 hw
      have k1 := kids_lt (v6.getD w.toNat (.i 0)) 5
      have k2 := szDs_mem hx
      simp only [S104x1x9, decide_eq_true hw, _root_.cond_true, inB_of h0 hw, bnd_eq]
      rw [R104_eq hN m _ _ _ _ _ _ _ (by omega) (by omega)]
      simp only [Option.isSome_some, _root_.cond_true, getD_some]
      rw [wrapI (by omega) (by omega), wrapI (by omega) (by omega), ih (_, _) ⟨by simp only; omega, by simp only; omega, by simp only; omega, by simp only [cns]; omega⟩ (by simp only; omega)]
      simp only [cns]
      congr 1
      omega
     ·have : w = v6.length := by omega
      subst this
      simp only [S104x1x9]
      rw [decide_eq_false hw, drop_end hw]
      simp [cns]) N (1, 0) ⟨by simp, by simp, by simp, by simp only [Int.toNat_zero, List.drop_zero]; omega⟩ (by simp only; omega)
   simpa using this
  rw [e]
  simp only [bnd_eq, Option.isSome_some, _root_.cond_true, getD_some]
  rw [cn_eq]
  congr 1
theorem R106_eq (hN : maxLen < N) : ∀ (m : Nat) (v0 v1 v2 v3 : Int) (v4 : List UInt8) (v5 : Bool) (v6 : List D) (v7 : Int), szDs v6 < m → szDs v6 ≤ 2097152 → 1 ≤ v7 → v7 ≤ 101 → R106x1 N m v0 v1 v2 v3 v4 v5 v6 v7 = some (min (cn v6 : Int) v7)
 | 0, _, _, _, _, _, _, _, _, h, _, _, _ => by omega
 | m + 1, v0, v1, v2, v3, v4, v5, v6, v7, h, hM, hv, hv' => by
  have hm : maxLen = 9223372036854775807 := rfl
  have hlen := szDs_len v6
  have hall := cns_le v6
  show G106x1 N (R106x1 N m) v0 v1 v2 v3 v4 v5 v6 v7 = _
  unfold G106x1 F106x1
  have e : ∃ z, G106x1x9 N (R106x1 N m) v7 v6 (v6.length : Int) 1 0 = some z ∧ (z = .inl () ∧ v7 ≤ 1 + (cns v6 : Int) ∨ z = .inr (min (1 + (cns v6 : Int)) v7)) := by
   unfold G106x1x9
   have := loop_indE (A := Int × Int) (S := fun a kr => S106x1x9 N (R106x1 N m) v7 v6 (v6.length : Int) a.1 a.2 (fun x y => kr (x, y)) (fun p => some (Sum.inl p)) (fun p => some (Sum.inr p))) (L := fun f a => L106x1x9 N (R106x1 N m) v7 v6 (v6.length : Int) f a.1 a.2 (fun p => some (Sum.inl p)) (fun p => some (Sum.inr p))) (fun f a => rfl)
    (fun a X => ∃ z, X = some z ∧ (z = .inl () ∧ v7 ≤ a.1 + (cns (v6.drop a.2.toNat) : Int) ∨ z = .inr (min (a.1 + (cns (v6.drop a.2.toNat) : Int)) v7))) (fun a => 0 ≤ a.2 ∧ a.2 ≤ v6.length ∧ 1 ≤ a.1 ∧ a.1 ≤ v7) (fun a => (v6.length - a.2).toNat) (fun ⟨a, w⟩ kr ⟨h0, h1, h2, h3⟩ ih => by
     simp only at h0 h1 h2 h3 ⊢
     by_cases hw : w < v6.length
     ·have hd := drop_at (.i 0 : D) h0 hw
      rw [hd]
      simp only [cns, List.map_cons, List.sum_cons]
      have hx := getD_memD h0 hw
      have k1 := kids_lt (v6.getD w.toNat (.i 0)) 5
      have k2 := szDs_mem hx
      have k3 := cn_pos ((v6.getD w.toNat (.i 0)).cell 5).items
      simp only [S106x1x9, decide_eq_true hw, _root_.cond_true, inB_of h0 hw, bnd_eq]
      by_cases hge : a ≥ v7
      ·rw [decide_eq_true hge]
       exact ⟨_, rfl, .inl ⟨rfl, by omega⟩⟩
      ·rw [decide_eq_false hge]
       simp only [_root_.cond_false]
       rw [wrapI (by omega) (by omega), R106_eq hN m _ _ _ _ _ _ _ _ (by omega) (by omega) (by omega) (by omega)]
       simp only [Option.isSome_some, _root_.cond_true, getD_some]
       rw [wrapI (by omega) (by omega), wrapI (by omega) (by omega)]
       obtain ⟨z, z1, z2⟩ := ih (a + min (cn ((v6.getD w.toNat (.i 0)).cell 5).items : Int) (v7 - a), w + 1) ⟨by simp only; omega, by simp only; omega, by simp only; omega, by simp only; omega⟩ (by simp only; omega)
       refine ⟨z, z1, ?_⟩
       simp only [cns] at z2
       rcases z2 with ⟨z3, z4⟩ | z3
       ·exact .inl ⟨z3, by omega⟩
       ·refine .inr (z3.trans ?_)
        congr 1
        omega
     ·have : w = v6.length := by omega
      subst this
      simp only [S106x1x9]
      rw [decide_eq_false hw, drop_end hw]
      exact ⟨_, rfl, .inr (by simp [cns]; omega)⟩) N (1, 0) ⟨by simp, by simp, by simp, by simpa using hv⟩ (by simp only; omega)
   simpa using this
  obtain ⟨z, e1, e2⟩ := e
  rw [e1, cn_eq]
  simp only [bnd_eq]
  rcases e2 with ⟨rfl, e3⟩ | rfl
  ·show some v7 = _
   congr 1
   have : (List.map (fun x => cn (x.cell 5).items) v6).sum = cns v6 := rfl
   push_cast
   omega
  ·show some _ = _
   congr 1
end Go.Proofs.YtmhaghcfopdifaaGreatDoor

namespace Go.Proofs.YtmhaghcfopdifaaGreatDoor
open Go Go.AM
set_option maxRecDepth 100000
set_option maxHeartbeats 4000000
variable {N : Nat}
def ndE (v0 v1 v2 v3 : Int) (v4 : List UInt8) (n : Nat) : Int :=
 bif !inI v0 1 7 then 7 else
 bif v0 == 4 && !inI v2 1 5 then 7 else
 bif v0 == 5 && !nameB v4 then 8 else
 bif v0 == 6 && !showB v4 then 2 else
 bif v0 == 7 && !inI v1 1 7 then 7 else
 bif v0 == 7 && (!inI v2 (-1000000000000000) 1000000000000000 || !inI v3 (-1000000000000000) 1000000000000000 || decide (v2 > v3)) then 9 else
 bif (v0 != 7 && (v1 != 0 || v3 != 0)) || (v0 != 7 && v0 != 4 && v2 != 0) || (v0 != 5 && v0 != 6 && !(v4 == ([] : List UInt8))) || (decide (v0 > 3) && decide ((n : Int) > 0)) || (v0 == 3 && (n : Int) != 1) then 2 else 0
section
variable {v0 v1 v2 v3 : Int} {v4 : List UInt8} {v6 : List D}
theorem kinds7 (h : inI v0 1 7 = true) : v0 = 1 ∨ v0 = 2 ∨ v0 = 3 ∨ v0 = 4 ∨ v0 = 5 ∨ v0 = 6 ∨ v0 = 7 := by
 unfold inI at h
 simp at h
 omega
theorem V199x0x76_eq : V199x0x76 N v2 v3 = (!inI v2 (-1000000000000000) 1000000000000000 || !inI v3 (-1000000000000000) 1000000000000000 || decide (v2 > v3)) := by
 unfold V199x0x76 F199x0x76
 simp only [bnd_eq, V114x0_eq]
 cases inI v2 (-1000000000000000) 1000000000000000 <;> cases inI v3 (-1000000000000000) 1000000000000000 <;> rfl
theorem len_show (s : List UInt8) : (bif (decide ((s.length : Int) < 1)) then true else (decide ((s.length : Int) > 60))) = !decide (1 ≤ s.length ∧ s.length ≤ 60) := by
 by_cases h1 : (s.length : Int) < 1
 ·rw [decide_eq_true h1, decide_eq_false (show ¬ (1 ≤ s.length ∧ s.length ≤ 60) by omega)]; rfl
 ·by_cases h2 : (s.length : Int) > 60
  ·rw [decide_eq_false h1, decide_eq_true h2, decide_eq_false (show ¬ (1 ≤ s.length ∧ s.length ≤ 60) by omega)]; rfl
  ·rw [decide_eq_false h1, decide_eq_false h2, decide_eq_true (show (1 ≤ s.length ∧ s.length ≤ 60) by omega)]; rfl
theorem G199x0_eq (hN : maxLen < N) (h4 : v4.length ≤ maxLen) : G199x0 N v0 v1 v2 v3 v4 v6 = some (ndE v0 v1 v2 v3 v4 v6.length) := by
 unfold G199x0 F199x0 ndE
 rw [V114x0_eq]
 simp only [bnd_eq]
 cases hk : inI v0 1 7 with
 | false => rfl
 | true =>
 unfold G199x0x27020 F199x0x27020 G199x0x39032 F199x0x39032 G199x0x66044 F199x0x66044 G199x0x71 F199x0x71
 rw [G118x0_eq hN h4, G199x0x45_eq hN h4]
 simp only [bnd_eq, V114x0_eq, V124x0_eq, V199x0x76_eq, len_show, Option.isSome_some, getD_some, _root_.cond_true]
 rcases kinds7 hk with rfl | rfl | rfl | rfl | rfl | rfl | rfl
 ·simp [inlB, inrQ, inlV]
  cases v1 != 0 <;> cases v2 != 0 <;> cases v3 != 0 <;> cases v4.isEmpty <;> rfl
 ·simp [inlB, inrQ, inlV]
  cases v1 != 0 <;> cases v2 != 0 <;> cases v3 != 0 <;> cases v4.isEmpty <;> rfl
 ·simp [inlB, inrQ, inlV]
  cases v1 != 0 <;> cases v2 != 0 <;> cases v3 != 0 <;> cases v4.isEmpty <;> cases (v6.length : Int) != 1 <;> rfl
 ·cases inI v2 1 5 <;> simp [inlB, inrQ, inlV]
  cases v1 != 0 <;> cases v3 != 0 <;> cases v4.isEmpty <;> cases decide (0 < v6.length) <;> rfl
 ·cases nameB v4 <;> simp [inlB, inrQ, inlV]
  cases v1 != 0 <;> cases v2 != 0 <;> cases v3 != 0 <;> cases decide (0 < v6.length) <;> rfl
 ·unfold showB
  cases prB v4 <;> cases decide (1 ≤ v4.length ∧ v4.length ≤ 60) <;> simp [inlB, inrQ, inlV]
  cases v1 != 0 <;> cases v2 != 0 <;> cases v3 != 0 <;> cases decide (0 < v6.length) <;> rfl
 ·cases inI v1 1 7 <;> cases inI v2 (-1000000000000000) 1000000000000000 <;> cases inI v3 (-1000000000000000) 1000000000000000 <;> cases decide (v2 > v3) <;> simp [inlB, inrQ, inlV]
  cases v4.isEmpty <;> cases decide (0 < v6.length) <;> rfl
theorem G105_node (hN : maxLen < N) (h4 : v4.length ≤ maxLen) {rc : Rc105x1} {v5 : Bool} {v7 : Int} : G105x1 N rc v0 v1 v2 v3 v4 v5 v6 v7 =
  bif ndE v0 v1 v2 v3 v4 v6.length != 0 then some (ndE v0 v1 v2 v3 v4 v6.length) else bif decide (v7 > 20) then some 3 else
   bif inlB (G105x1x75 N rc v7 v6 (v6.length : Int) 0) then some (inlV (G105x1x75 N rc v7 v6 (v6.length : Int) 0)) else bif (inrQ (G105x1x75 N rc v7 v6 (v6.length : Int) 0)).isSome then some 0 else none := by
 unfold G105x1 F105x1 ndE
 simp only [bnd_eq, V109x0_eq]
 generalize G105x1x75 N rc v7 v6 (v6.length : Int) 0 = g
 cases hk : inI v0 1 7 with
 | false => rfl
 | true =>
 unfold V105x1x19 F105x1x19 V105x1x21002 F105x1x21002 V105x1x22 F105x1x22 V105x1x28 F105x1x28 G105x1x34 F105x1x34 G105x1x40 F105x1x40 V105x1x48002 F105x1x48002 V105x1x51002 F105x1x51002 V105x1x54002 F105x1x54002
 rw [G117x0_eq hN h4, G198x0_eq hN h4]
 simp only [bnd_eq, V109x0_eq, V123x0_eq, Option.isSome_some, getD_some, _root_.cond_true]
 have e1 : inI 1 1 3 = true := rfl
 have e2 : inI 2 1 3 = true := rfl
 have e3 : inI 3 1 3 = true := rfl
 have e4 : inI 4 1 3 = false := rfl
 have e5 : inI 5 1 3 = false := rfl
 have e6 : inI 6 1 3 = false := rfl
 have e7 : inI 7 1 3 = false := rfl
 rcases kinds7 hk with rfl | rfl | rfl | rfl | rfl | rfl | rfl
 ·simp [e1]
  cases v1 != 0 <;> cases v2 != 0 <;> cases v3 != 0 <;> cases v4.isEmpty <;> rfl
 ·simp [e2]
  cases v1 != 0 <;> cases v2 != 0 <;> cases v3 != 0 <;> cases v4.isEmpty <;> rfl
 ·simp [e3]
  cases v1 != 0 <;> cases v2 != 0 <;> cases v3 != 0 <;> cases v4.isEmpty <;> cases (v6.length : Int) != 1 <;> rfl
 ·cases inI v2 1 5 <;> simp [e4]
  cases v1 != 0 <;> cases v3 != 0 <;> cases v4.isEmpty <;> cases decide (0 < v6.length) <;> rfl
 ·cases nameB v4 <;> simp [e5]
  cases v1 != 0 <;> cases v2 != 0 <;> cases v3 != 0 <;> cases decide (0 < v6.length) <;> rfl
 ·cases showB v4 <;> simp [e6]
  cases v1 != 0 <;> cases v2 != 0 <;> cases v3 != 0 <;> cases decide (0 < v6.length) <;> rfl
 ·cases inI v1 1 7 <;> cases inI v2 (-1000000000000000) 1000000000000000 <;> cases inI v3 (-1000000000000000) 1000000000000000 <;> cases decide (v2 > v3) <;> simp [e7]
  cases v4.isEmpty <;> cases decide (0 < v6.length) <;> rfl
theorem G107_node (hN : maxLen < N) (h4 : v4.length ≤ maxLen) {rc : Rc107x1} {v5 : Bool} {v7 : Int} : G107x1 N rc v0 v1 v2 v3 v4 v5 v6 v7 =
  bif ndE v0 v1 v2 v3 v4 v6.length != 0 then some (ndE v0 v1 v2 v3 v4 v6.length) else bif decide (v7 > 20) then some 3 else
   bif inlB (G107x1x21 N rc v7 v6 (v6.length : Int) 0) then some (inlV (G107x1x21 N rc v7 v6 (v6.length : Int) 0)) else bif (inrQ (G107x1x21 N rc v7 v6 (v6.length : Int) 0)).isSome then some 0 else none := by
 unfold G107x1 F107x1
 rw [G199x0_eq hN h4]
 rfl
end
abbrev k0 (x : D) : Int := (x.cell 0).toI
abbrev k1 (x : D) : Int := (x.cell 1).toI
abbrev k2 (x : D) : Int := (x.cell 2).toI
abbrev k3 (x : D) : Int := (x.cell 3).toI
abbrev k4 (x : D) : List UInt8 := (x.cell 4).toS
abbrev k5 (x : D) : Bool := (x.cell 5).isNil
abbrev k6 (x : D) : List D := (x.cell 5).items
theorem R105_R107 (hN : maxLen < N) : ∀ (m m' : Nat) (v0 v1 v2 v3 : Int) (v4 : List UInt8) (v5 : Bool) (v6 : List D) (v7 : Int), szDs v6 < m → szDs v6 < m' → szDs v6 ≤ 2097152 → v4.length ≤ maxLen → 0 ≤ v7 → v7 ≤ 21 →
  ∃ e, R105x1 N m v0 v1 v2 v3 v4 v5 v6 v7 = some e ∧ R107x1 N m' v0 v1 v2 v3 v4 v5 v6 v7 = some e ∧
   (e = 0 → ndE v0 v1 v2 v3 v4 v6.length = 0 ∧ v7 ≤ 20 ∧ ∀ x ∈ v6, ∀ n, szDs (k6 x) < n → R107x1 N n (k0 x) (k1 x) (k2 x) (k3 x) (k4 x) (k5 x) (k6 x) (v7 + 1) = some 0)
 | 0, _, _, _, _, _, _, _, _, _, h, _, _, _, _, _ => by omega
 | _, 0, _, _, _, _, _, _, _, _, _, h, _, _, _, _ => by omega
 | m + 1, m' + 1, v0, v1, v2, v3, v4, v5, v6, v7, h, h', hM, h4, hv, hv' => by
  have hm : maxLen = 9223372036854775807 := rfl
  have hlen := szDs_len v6
  show ∃ e, G105x1 N (R105x1 N m) v0 v1 v2 v3 v4 v5 v6 v7 = some e ∧ G107x1 N (R107x1 N m') v0 v1 v2 v3 v4 v5 v6 v7 = some e ∧ _
  rw [G105_node hN h4, G107_node hN h4]
  cases hnd : ndE v0 v1 v2 v3 v4 v6.length != 0 with
  | true => exact ⟨_, rfl, rfl, fun h0 => by rw [h0] at hnd; cases hnd⟩
  | false =>
  by_cases h20 : v7 > 20
  ·rw [decide_eq_true h20]
   exact ⟨3, rfl, rfl, fun h0 => by omega⟩
  ·rw [decide_eq_false h20]
   simp only [_root_.cond_false]
   have hnd : ndE v0 v1 v2 v3 v4 v6.length = 0 := by simpa using hnd
   have e : ∃ z, G105x1x75 N (R105x1 N m) v7 v6 (v6.length : Int) 0 = some (wayE z) ∧ G107x1x21 N (R107x1 N m') v7 v6 (v6.length : Int) 0 = some (wayE z) ∧ (z = 0 → ∀ x ∈ v6.drop (0 : Int).toNat, ∀ n, szDs (k6 x) < n → R107x1 N n (k0 x) (k1 x) (k2 x) (k3 x) (k4 x) (k5 x) (k6 x) (v7 + 1) = some 0) := by
    unfold G105x1x75 G107x1x21
    have := loop_indE (A := Int) (X := Option (Sum Int Unit) × Option (Sum Int Unit))
     (S := fun w kr => (S105x1x75 N (R105x1 N m) v7 v6 (v6.length : Int) w (fun w => (kr w).1) (fun p => some (Sum.inl p)) (fun p => some (Sum.inr p)), S107x1x21 N (R107x1 N m') v7 v6 (v6.length : Int) w (fun w => (kr w).2) (fun p => some (Sum.inl p)) (fun p => some (Sum.inr p))))
     (L := fun f w => (L105x1x75 N (R105x1 N m) v7 v6 (v6.length : Int) f w (fun p => some (Sum.inl p)) (fun p => some (Sum.inr p)), L107x1x21 N (R107x1 N m') v7 v6 (v6.length : Int) f w (fun p => some (Sum.inl p)) (fun p => some (Sum.inr p)))) (fun f a => rfl)
     (fun w X => ∃ z, X.1 = some (wayE z) ∧ X.2 = some (wayE z) ∧ (z = 0 → ∀ x ∈ v6.drop w.toNat, ∀ n, szDs (k6 x) < n → R107x1 N n (k0 x) (k1 x) (k2 x) (k3 x) (k4 x) (k5 x) (k6 x) (v7 + 1) = some 0))
     (fun w => 0 ≤ w ∧ w ≤ v6.length) (fun w => (v6.length - w).toNat) (fun w kr ⟨h0, h1⟩ ih => by
      by_cases hw : w < v6.length
      ·have hd := drop_at (.i 0 : D) h0 hw
       have hx := getD_memD h0 hw
       generalize hxx : v6.getD w.toNat (.i 0) = x at hd hx
       have q1 : szDs (k6 x) < szD x := kids_lt x 5
       have q2 := szDs_mem hx
       have q3 : (k4 x).length < szD x := text_lt x 4
       simp only [S105x1x75, S107x1x21, decide_eq_true hw, _root_.cond_true, inB_of h0 hw, bnd_eq, hxx]
       rw [wrapI (by omega) (by omega), wrapI (by omega) (by omega)]
       obtain ⟨e, e1, e2, _⟩ := R105_R107 hN m m' (k0 x) (k1 x) (k2 x) (k3 x) (k4 x) (k5 x) (k6 x) (v7 + 1) (by omega) (by omega) (by omega) (by omega) (by omega) (by omega)
       rw [e1, e2]
       simp only [Option.isSome_some, _root_.cond_true, getD_some]
       cases he : e != 0 with
       | true => exact ⟨e, by simp [wayE, he], by simp [wayE, he], fun h0 => by rw [h0] at he; cases he⟩
       | false =>
        have he : e = 0 := by simpa using he
        subst he
        obtain ⟨z, z1, z2, z3⟩ := ih (w + 1) ⟨by omega, by omega⟩ (by omega)
        refine ⟨z, z1, z2, fun hz y hy n hn => ?_⟩
        rw [hd] at hy
        rcases List.mem_cons.1 hy with rfl | hy
        ·obtain ⟨e', f1, f2, _⟩ := R105_R107 hN m n (k0 y) (k1 y) (k2 y) (k3 y) (k4 y) (k5 y) (k6 y) (v7 + 1) (by omega) hn (by omega) (by omega) (by omega) (by omega)
         rw [e1] at f1
         rw [f2, ← f1]
        ·exact z3 hz y hy n hn
      ·have : w = v6.length := by omega
       subst this
       simp only [S105x1x75, S107x1x21, decide_eq_false hw, _root_.cond_false]
       refine ⟨0, rfl, rfl, fun _ y hy => ?_⟩
       rw [drop_end hw] at hy
       cases hy) N 0 ⟨by omega, by omega⟩ (by omega)
    simpa using this
   obtain ⟨z, z1, z2, z3⟩ := e
   rw [z1, z2]
   refine ⟨z, ?_, ?_, fun hz => ⟨hnd, by omega, fun x hx => z3 hz x (by simpa using hx)⟩⟩
   ·exact wayE_some (k := some)
   ·exact wayE_some (k := some)
theorem G28_G29 (hN : maxLen < N) {v0 v1 v2 v3 : Int} {v4 : List UInt8} {v5 : Bool} {v6 : List D} (hM : szDs v6 ≤ 2097152) (h4 : v4.length ≤ maxLen) :
  ∃ e, G28x0 N v0 v1 v2 v3 v4 v5 v6 = some e ∧ G29x0 N v0 v1 v2 v3 v4 v5 v6 = some e ∧ (e = 0 → R107x1 N N v0 v1 v2 v3 v4 v5 v6 0 = some 0) := by
 have hm : maxLen = 9223372036854775807 := rfl
 unfold G28x0 F28x0 G29x0 F29x0
 rw [R104_eq hN N _ _ _ _ _ _ _ (by omega) hM, R106_eq hN N _ _ _ _ _ _ _ _ (by omega) hM (by omega) (by omega)]
 obtain ⟨e, e1, e2, _⟩ := R105_R107 hN N N v0 v1 v2 v3 v4 v5 v6 0 (by omega) (by omega) hM h4 (by omega) (by omega)
 rw [e1, e2]
 simp only [bnd_eq, Option.isSome_some, _root_.cond_true, getD_some]
 by_cases hc : (cn v6 : Int) > 100
 ·rw [decide_eq_true hc, decide_eq_true (by omega)]
  exact ⟨3, rfl, rfl, fun h => by omega⟩
 ·rw [decide_eq_false hc, decide_eq_false (by omega)]
  exact ⟨e, rfl, rfl, fun h => by rw [h]⟩
end Go.Proofs.YtmhaghcfopdifaaGreatDoor

namespace Go.Proofs.YtmhaghcfopdifaaGreatDoor
open Go Go.AM
set_option maxRecDepth 100000
set_option maxHeartbeats 4000000
variable {N : Nat}
theorem ndE_zero {v0 v1 v2 v3 : Int} {v4 : List UInt8} {n : Nat} (h : ndE v0 v1 v2 v3 v4 n = 0) : inI v0 1 7 = true ∧ (v0 = 7 → inI v1 1 7 = true) ∧ (v0 = 3 → n = 1) := by
 unfold ndE at h
 cases h1 : inI v0 1 7 with
 | false => rw [h1] at h; cases h
 | true =>
 rw [h1] at h
 refine ⟨rfl, fun h7 => ?_, fun h3 => ?_⟩
 ·subst h7
  cases h2 : inI v1 1 7 with
  | true => rfl
  | false => rw [h2] at h; cases h
 ·subst h3
  cases h2 : ((n : Int) != 1) with
  | false =>
   have : (n : Int) = 1 := by simpa using h2
   omega
  | true =>
   rw [h2] at h
   simp at h
section
variable {v1 v2 v3 : Int} {v4 : List UInt8} {v7 : List UInt8} {v8 v9 v10 v11 v12 v13 : Int} {v14 : Bool} {v15 : List D}
theorem tags_eq (hN : maxLen < N) (rc : Rc102x1) (rc' : Rc103x1) (hl : v15.length ≤ maxLen) : ∃ b, G195x0 N rc v15 v4 = some b ∧ ∃ z, G103x1x72 N rc' v15 (v15.length : Int) v4 0 = some z ∧ (b = true ∧ z = .inl () ∨ b = false ∧ z = .inr ()) := by
 have hm : maxLen = 9223372036854775807 := rfl
 have e : ∃ z z', G182x0x6 N rc v15 v4 (v15.length : Int) 0 = some z ∧ G103x1x72 N rc' v15 (v15.length : Int) v4 0 = some z' ∧ ((∃ i, 0 ≤ i ∧ z = .inl i ∧ z' = .inl ()) ∨ z = .inr () ∧ z' = .inr ()) := by
  unfold G182x0x6 G103x1x72
  have := loop_indE (A := Int) (X := Option (Sum Int Unit) × Option (Sum Unit Unit))
   (S := fun w kr => (S182x0x6 N rc v15 v4 (v15.length : Int) w (fun w => (kr w).1) (fun p => some (Sum.inl p)) (fun p => some (Sum.inr p)), S103x1x72 N rc' v15 (v15.length : Int) v4 w (fun w => (kr w).2) (fun p => some (Sum.inl p)) (fun p => some (Sum.inr p))))
   (L := fun f w => (L182x0x6 N rc v15 v4 (v15.length : Int) f w (fun p => some (Sum.inl p)) (fun p => some (Sum.inr p)), L103x1x72 N rc' v15 (v15.length : Int) v4 f w (fun p => some (Sum.inl p)) (fun p => some (Sum.inr p)))) (fun f a => rfl)
   (fun w X => ∃ z z', X.1 = some z ∧ X.2 = some z' ∧ ((∃ i, 0 ≤ i ∧ z = .inl i ∧ z' = .inl ()) ∨ z = .inr () ∧ z' = .inr ()))
   (fun w => 0 ≤ w ∧ w ≤ v15.length) (fun w => (v15.length - w).toNat) (fun w kr ⟨h0, h1⟩ ih => by
    by_cases hw : w < v15.length
    ·simp only [S182x0x6, S103x1x72, decide_eq_true hw, _root_.cond_true, inB_of h0 hw]
     rw [wrapI (by omega) (by omega), show (v4 == (v15.getD w.toNat (.i 0)).toS) = ((v15.getD w.toNat (.i 0)).toS == v4) from Bool.eq_iff_iff.2 (by simp only [beq_iff_eq]; exact ⟨Eq.symm, Eq.symm⟩)]
     cases (v15.getD w.toNat (.i 0)).toS == v4 with
     | true => exact ⟨_, _, rfl, rfl, .inl ⟨w, h0, rfl, rfl⟩⟩
     | false => exact ih (w + 1) ⟨by omega, by omega⟩ (by omega)
    ·simp only [S182x0x6, S103x1x72, decide_eq_false hw, _root_.cond_false]
     exact ⟨_, _, rfl, rfl, .inr ⟨rfl, rfl⟩⟩) N 0 ⟨by omega, by omega⟩ (by omega)
  exact this
 obtain ⟨z, z', e1, e2, e3⟩ := e
 unfold G195x0 F195x0 G182x0 F182x0
 rw [e1, e2]
 rcases e3 with ⟨i, hi, rfl, rfl⟩ | ⟨rfl, rfl⟩
 ·refine ⟨true, ?_, _, rfl, .inl ⟨rfl, rfl⟩⟩
  show some (decide (i ≥ 0)) = _
  rw [decide_eq_true hi]
 ·exact ⟨false, rfl, _, rfl, .inr ⟨rfl, rfl⟩⟩
theorem num_eq (rc : Rc102x1) (rc' : Rc103x1) (h : inI v1 1 7 = true) : G102x1x46 N rc v1 v2 v3 v9 v10 v11 v12 v13 = some (bif (decide (v2 ≤ (V197x0 N rc' v9 v10 v11 v12 v13 v1))) then (decide ((V197x0 N rc' v9 v10 v11 v12 v13 v1) ≤ v3)) else false) := by
 unfold G102x1x46 F102x1x46 V197x0 F197x0 V184x0 F184x0 V189x0 F189x0
 simp only [bnd_eq, V109x0_eq, inI]
 have e : ∀ n : Int, decide (v2 ≤ n ∧ n ≤ v3) = (bif decide (v2 ≤ n) then decide (n ≤ v3) else false) := fun n => by
  rw [Bool.eq_iff_iff]; simp
 rcases kinds7 h with rfl | rfl | rfl | rfl | rfl | rfl | rfl <;> simp only [e] <;> rfl
theorem R102_R103 (hN : maxLen < N) (h7 : v7.length < 4294967281) (hl : v15.length ≤ maxLen) : ∀ (m m' : Nat) (v0 v1 v2 v3 : Int) (v4 : List UInt8) (v5 : Bool) (v6 : List D) (lv : Int), szDs v6 < m → szDs v6 < m' → szDs v6 ≤ 2097152 → v4.length ≤ maxLen → 0 ≤ lv → lv ≤ 21 →
  R107x1 N (szDs v6 + 1) v0 v1 v2 v3 v4 v5 v6 lv = some 0 →
  ∃ b, R102x1 N m v0 v1 v2 v3 v4 v5 v6 v7 v8 v9 v10 v11 v12 v13 v14 v15 = some b ∧ R103x1 N m' v0 v1 v2 v3 v4 v5 v6 v7 v8 v9 v10 v11 v12 v13 v14 v15 = some b
 | 0, _, _, _, _, _, _, _, _, _, h, _, _, _, _, _, _ => by omega
 | _, 0, _, _, _, _, _, _, _, _, _, h, _, _, _, _, _ => by omega
 | m + 1, m' + 1, v0, v1, v2, v3, v4, v5, v6, lv, h, h', hM, h4, hv, hv', hok => by
  have hm : maxLen = 9223372036854775807 := rfl
  have hlen := szDs_len v6
  obtain ⟨e, e1, e2, e3⟩ := R105_R107 hN (szDs v6 + 1) (szDs v6 + 1) v0 v1 v2 v3 v4 v5 v6 lv (by omega) (by omega) hM h4 hv hv'
  rw [hok] at e2
  obtain ⟨hnd, hlv, hkids⟩ := e3 (Option.some.inj e2).symm
  obtain ⟨n1, n2, n3⟩ := ndE_zero hnd
  have kid : ∀ x ∈ v6, ∃ b, R102x1 N m (k0 x) (k1 x) (k2 x) (k3 x) (k4 x) (k5 x) (k6 x) v7 v8 v9 v10 v11 v12 v13 v14 v15 = some b ∧ R103x1 N m' (k0 x) (k1 x) (k2 x) (k3 x) (k4 x) (k5 x) (k6 x) v7 v8 v9 v10 v11 v12 v13 v14 v15 = some b := by
   intro x hx
   have q1 : szDs (k6 x) < szD x := kids_lt x 5
   have q2 := szDs_mem hx
   have q3 : (k4 x).length < szD x := text_lt x 4
   exact R102_R103 hN h7 hl m m' _ _ _ _ _ _ _ (lv + 1) (by omega) (by omega) (by omega) (by omega) (by omega) (by omega) (hkids x hx _ (Nat.lt_succ_self _))
  show ∃ b, G102x1 N (R102x1 N m) v0 v1 v2 v3 v4 v5 v6 v7 v8 v9 v10 v11 v12 v13 v14 v15 = some b ∧ G103x1 N (R103x1 N m') v0 v1 v2 v3 v4 v5 v6 v7 v8 v9 v10 v11 v12 v13 v14 v15 = some b
  generalize hrc : R102x1 N m = rc at kid ⊢
  generalize hrc' : R103x1 N m' = rc' at kid ⊢
  unfold G102x1 F102x1 G103x1 F103x1
  rcases kinds7 n1 with rfl | rfl | rfl | rfl | rfl | rfl | rfl
  ·have e : (G220x0x6 N rc v6 (v6.length : Int) v7 v8 v9 v10 v11 v12 v13 v14 v15 0 = some (.inr ()) ∧ G103x1x12 N rc' v6 (v6.length : Int) v7 v8 v9 v10 v11 v12 v13 v14 v15 0 = some (.inr ())) ∨ (∃ i, 0 ≤ i ∧ G220x0x6 N rc v6 (v6.length : Int) v7 v8 v9 v10 v11 v12 v13 v14 v15 0 = some (.inl i) ∧ G103x1x12 N rc' v6 (v6.length : Int) v7 v8 v9 v10 v11 v12 v13 v14 v15 0 = some (.inl ())) := by
    unfold G220x0x6 G103x1x12
    exact loop_indE (A := Int) (X := Option (Sum Int Unit) × Option (Sum Unit Unit))
     (S := fun w kr => (S220x0x6 N rc v6 (v6.length : Int) v7 v8 v9 v10 v11 v12 v13 v14 v15 w (fun w => (kr w).1) (fun p => some (Sum.inl p)) (fun p => some (Sum.inr p)), S103x1x12 N rc' v6 (v6.length : Int) v7 v8 v9 v10 v11 v12 v13 v14 v15 w (fun w => (kr w).2) (fun p => some (Sum.inl p)) (fun p => some (Sum.inr p))))
     (L := fun f w => (L220x0x6 N rc v6 (v6.length : Int) v7 v8 v9 v10 v11 v12 v13 v14 v15 f w (fun p => some (Sum.inl p)) (fun p => some (Sum.inr p)), L103x1x12 N rc' v6 (v6.length : Int) v7 v8 v9 v10 v11 v12 v13 v14 v15 f w (fun p => some (Sum.inl p)) (fun p => some (Sum.inr p)))) (fun f a => rfl)
     (fun w X => (X.1 = some (.inr ()) ∧ X.2 = some (.inr ())) ∨ (∃ i, 0 ≤ i ∧ X.1 = some (.inl i) ∧ X.2 = some (.inl ())))
     (fun w => 0 ≤ w ∧ w ≤ v6.length) (fun w => (v6.length - w).toNat) (fun w kr ⟨h0, h1⟩ ih => by
      by_cases hw : w < v6.length
      ·obtain ⟨b, b1, b2⟩ := kid _ (getD_memD h0 hw)
       simp only [S220x0x6, S103x1x12, G194x0, F194x0, G193x0, F193x0, decide_eq_true hw, _root_.cond_true, inB_of h0 hw, bnd_eq]
       rw [wrapI (by omega) (by omega), b1, b2]
       simp only [Option.isSome_some, _root_.cond_true, getD_some]
       cases b with
       | false => exact .inr ⟨w, h0, rfl, rfl⟩
       | true => exact ih (w + 1) ⟨by omega, by omega⟩ (by omega)
      ·exact .inl ⟨by simp [S220x0x6, hw], by simp [S103x1x12, hw]⟩) N 0 ⟨by omega, by omega⟩ (by omega)
   unfold G126x0 F126x0 G220x0 F220x0
   rcases e with ⟨f1, f2⟩ | ⟨i, hi, f1, f2⟩
   ·rw [f1, f2]; exact ⟨true, rfl, rfl⟩
   ·rw [f1, f2]
    refine ⟨false, ?_, rfl⟩
    show some (!decide (i ≥ 0)) = _
    rw [decide_eq_true hi]; rfl
  ·have e : (G220x1x6 N rc v6 (v6.length : Int) v7 v8 v9 v10 v11 v12 v13 v14 v15 0 = some (.inr ()) ∧ G103x1x36 N rc' v6 (v6.length : Int) v7 v8 v9 v10 v11 v12 v13 v14 v15 0 = some (.inr ())) ∨ (∃ i, 0 ≤ i ∧ G220x1x6 N rc v6 (v6.length : Int) v7 v8 v9 v10 v11 v12 v13 v14 v15 0 = some (.inl i) ∧ G103x1x36 N rc' v6 (v6.length : Int) v7 v8 v9 v10 v11 v12 v13 v14 v15 0 = some (.inl ())) := by
    unfold G220x1x6 G103x1x36
    exact loop_indE (A := Int) (X := Option (Sum Int Unit) × Option (Sum Unit Unit))
     (S := fun w kr => (S220x1x6 N rc v6 (v6.length : Int) v7 v8 v9 v10 v11 v12 v13 v14 v15 w (fun w => (kr w).1) (fun p => some (Sum.inl p)) (fun p => some (Sum.inr p)), S103x1x36 N rc' v6 (v6.length : Int) v7 v8 v9 v10 v11 v12 v13 v14 v15 w (fun w => (kr w).2) (fun p => some (Sum.inl p)) (fun p => some (Sum.inr p))))
     (L := fun f w => (L220x1x6 N rc v6 (v6.length : Int) v7 v8 v9 v10 v11 v12 v13 v14 v15 f w (fun p => some (Sum.inl p)) (fun p => some (Sum.inr p)), L103x1x36 N rc' v6 (v6.length : Int) v7 v8 v9 v10 v11 v12 v13 v14 v15 f w (fun p => some (Sum.inl p)) (fun p => some (Sum.inr p)))) (fun f a => rfl)
     (fun w X => (X.1 = some (.inr ()) ∧ X.2 = some (.inr ())) ∨ (∃ i, 0 ≤ i ∧ X.1 = some (.inl i) ∧ X.2 = some (.inl ())))
     (fun w => 0 ≤ w ∧ w ≤ v6.length) (fun w => (v6.length - w).toNat) (fun w kr ⟨h0, h1⟩ ih => by
      by_cases hw : w < v6.length
      ·obtain ⟨b, b1, b2⟩ := kid _ (getD_memD h0 hw)
       simp only [S220x1x6, S103x1x36, G193x0, F193x0, decide_eq_true hw, _root_.cond_true, inB_of h0 hw, bnd_eq]
       rw [wrapI (by omega) (by omega), b1, b2]
       simp only [Option.isSome_some, _root_.cond_true, getD_some]
       cases b with
       | true => exact .inr ⟨w, h0, rfl, rfl⟩
       | false => exact ih (w + 1) ⟨by omega, by omega⟩ (by omega)
      ·exact .inl ⟨by simp [S220x1x6, hw], by simp [S103x1x36, hw]⟩) N 0 ⟨by omega, by omega⟩ (by omega)
   unfold G126x1 F126x1 G220x1 F220x1
   rcases e with ⟨f1, f2⟩ | ⟨i, hi, f1, f2⟩
   ·rw [f1, f2]; exact ⟨false, rfl, rfl⟩
   ·rw [f1, f2]
    refine ⟨true, ?_, rfl⟩
    show some (decide (i ≥ 0)) = _
    rw [decide_eq_true hi]
  ·have hl1 := n3 rfl
   have hb : inB 0 v6.length = true := inB_of (by omega) (by omega)
   obtain ⟨b, b1, b2⟩ := kid _ (getD_memD (l := v6) (w := 0) (by omega) (by omega))
   rw [hb]
   unfold G193x0 F193x0
   have b1 : rc ((v6.getD 0 (.i 0)).cell 0).toI ((v6.getD 0 (.i 0)).cell 1).toI ((v6.getD 0 (.i 0)).cell 2).toI ((v6.getD 0 (.i 0)).cell 3).toI ((v6.getD 0 (.i 0)).cell 4).toS ((v6.getD 0 (.i 0)).cell 5).isNil ((v6.getD 0 (.i 0)).cell 5).items v7 v8 v9 v10 v11 v12 v13 v14 v15 = some b := b1
   have b2 : rc' ((v6.getD 0 (.i 0)).cell 0).toI ((v6.getD 0 (.i 0)).cell 1).toI ((v6.getD 0 (.i 0)).cell 2).toI ((v6.getD 0 (.i 0)).cell 3).toI ((v6.getD 0 (.i 0)).cell 4).toS ((v6.getD 0 (.i 0)).cell 5).isNil ((v6.getD 0 (.i 0)).cell 5).items v7 v8 v9 v10 v11 v12 v13 v14 v15 = some b := b2
   rw [b1, b2]
   exact ⟨!b, rfl, rfl⟩
  ·exact ⟨v8 == v2, rfl, rfl⟩
  ·obtain ⟨b, f1, z, f2, f3⟩ := tags_eq (v4 := v4) hN rc rc' hl
   rw [f1, f2]
   rcases f3 with ⟨rfl, rfl⟩ | ⟨rfl, rfl⟩
   ·exact ⟨true, rfl, rfl⟩
   ·exact ⟨false, rfl, rfl⟩
  ·have hb : Nat.blt v7.length 4294967281 = true := Nat.ble_eq_true_of_le h7
   rw [hb]
   exact ⟨Lib.contains v7 v4, rfl, rfl⟩
  ·rw [num_eq rc rc' (n2 rfl)]
   exact ⟨_, rfl, rfl⟩
end
theorem rowE_name {v0 : List UInt8} {v1 v2 v3 v4 v5 v6 : Int} {v8 : List D} (h : rowE v0 v1 v2 v3 v4 v5 v6 v8 = 0) : v0.length ≤ 60 := by
 unfold rowE at h
 cases hn : nameB v0 with
 | false => rw [hn] at h; cases h
 | true =>
  unfold nameB at hn
  simp at hn
  omega
theorem law7 (hN : maxLen < N) {v0 v1 v2 v3 : Int} {v4 : List UInt8} {v5 : Bool} {v6 : List D} {v7 : List UInt8} {v8 v9 v10 v11 v12 v13 : Int} {v14 : Bool} {v15 : List D} (hM : szDs v6 ≤ 2097152) (h4 : v4.length ≤ maxLen)
  (h7 : v7.length ≤ maxLen) (hl : v15.length ≤ maxLen) (hx : ∀ j : Nat, ((v15.getD j (.i 0)).toS).length ≤ maxLen) : G7x0 N v0 v1 v2 v3 v4 v5 v6 v7 v8 v9 v10 v11 v12 v13 v14 v15 = some true := by
 have hm : maxLen = 9223372036854775807 := rfl
 obtain ⟨e, e1, e2, e3⟩ := G28_G29 (v0 := v0) (v1 := v1) (v2 := v2) (v3 := v3) (v4 := v4) (v5 := v5) hN hM h4
 have r1 := G33x0_eq (v1 := v8) (v2 := v9) (v3 := v10) (v4 := v11) (v5 := v12) (v6 := v13) hN h7 hl hx
 have r2 := G34x0_eq (v1 := v8) (v2 := v9) (v3 := v10) (v4 := v11) (v5 := v12) (v6 := v13) hN h7 hl hx
 have hh : ∃ b c, G26x0 N v0 v1 v2 v3 v4 v5 v6 v7 v8 v9 v10 v11 v12 v13 v14 v15 = some (b, c) ∧ G27x0 N v0 v1 v2 v3 v4 v5 v6 v7 v8 v9 v10 v11 v12 v13 v14 v15 = some (b, c) := by
  unfold G26x0 F26x0 G27x0 F27x0
  rw [e1, e2, r1, r2]
  simp only [bnd_eq, Option.isSome_some, _root_.cond_true, getD_some]
  rw [G101x0_eq (by omega)]
  simp only [Option.isSome_some, _root_.cond_true, getD_some]
  cases he : e != 0 with
  | true => simp only [_root_.cond_true, he]; exact ⟨_, _, rfl, rfl⟩
  | false =>
   simp only [_root_.cond_false]
   cases hr : rowE v7 v8 v9 v10 v11 v12 v13 v15 != 0 with
   | true => exact ⟨_, _, rfl, rfl⟩
   | false =>
    have he : e = 0 := by simpa using he
    have hr : rowE v7 v8 v9 v10 v11 v12 v13 v15 = 0 := by simpa using hr
    have hn := rowE_name hr
    obtain ⟨e', f1, f2, f3⟩ := R105_R107 hN N (szDs v6 + 1) v0 v1 v2 v3 v4 v5 v6 0 (by omega) (by omega) hM h4 (by omega) (by omega)
    obtain ⟨e'', g1, g2, _⟩ := R105_R107 hN N N v0 v1 v2 v3 v4 v5 v6 0 (by omega) (by omega) hM h4 (by omega) (by omega)
    rw [e3 he] at g2
    have hz : e' = 0 := by rw [f1] at g1; rw [Option.some.inj g1, ← Option.some.inj g2]
    subst hz
    obtain ⟨b, b1, b2⟩ := R102_R103 (v7 := v7) (v15 := v15) (v8 := v8) (v9 := v9) (v10 := v10) (v11 := v11) (v12 := v12) (v13 := v13) (v14 := v14) hN (by omega) hl N N v0 v1 v2 v3 v4 v5 v6 0 (by omega) (by omega) hM h4 (by omega) (by omega) f2
    rw [b1, b2]
    exact ⟨_, _, rfl, rfl⟩
 obtain ⟨b, c, g1, g2⟩ := hh
 unfold G7x0 F7x0 G7x0x10 F7x0x10
 rw [g1, g2, e1, e2]
 simp [bnd_eq]
end Go.Proofs.YtmhaghcfopdifaaGreatDoor

namespace Go.Proofs.YtmhaghcfopdifaaGreatDoor
open Go Go.AM
set_option maxRecDepth 100000
set_option maxHeartbeats 4000000
theorem kinds24 : kinds Tryz.prog 24 = [.int .i64, .int .i64, .int .i64, .int .i64, .str, .sl 24] := by kernel_rfl
theorem kinds44 : kinds Tryz.prog 44 = [.str, .int .i64, .int .i64, .int .i64, .int .i64, .int .i64, .int .i64, .sl 9] := by kernel_rfl
theorem kinds9 : kinds Tryz.prog 9 = [.str] := by kernel_rfl
theorem agg9 : isAggB Tryz.prog 9 = false := by kernel_rfl
theorem int1 {m : Nat} {k : IntKind} {d : D} (h : TyK Tryz.prog m (.int k) d) : ∃ i, d = .i i := by
 cases m with
 | zero => exact h.elim
 | succ m => obtain ⟨i, h1, _⟩ := h; exact ⟨i, h1⟩
theorem str1 {m : Nat} {d : D} (h : TyK Tryz.prog m .str d) : ∃ s, d = .s s ∧ s.length ≤ maxLen := by
 cases m with
 | zero => exact h.elim
 | succ m => exact h
theorem sl1 {m : Nat} {e : TypeId} {d : D} (h : TyK Tryz.prog m (.sl e) d) : ∃ nl xs, d = .l nl xs ∧ xs.length ≤ maxLen ∧ ∀ x ∈ xs, ∃ m', TyEl Tryz.prog (TyK Tryz.prog m') e x := by
 cases m with
 | zero => exact h.elim
 | succ m => obtain ⟨nl, xs, h1, _, h2, h3⟩ := h; exact ⟨nl, xs, h1, h2, fun x hx => ⟨m, h3 x hx⟩⟩
theorem strs9 {m : Nat} {x : D} (h : TyEl Tryz.prog (TyK Tryz.prog m) 9 x) : x.toS.length ≤ maxLen := by
 unfold TyEl at h
 rw [if_neg (by rw [agg9]; simp)] at h
 obtain ⟨k, h1, h2⟩ := h
 rw [kinds9] at h1
 simp only [List.cons.injEq, and_true] at h1
 subst h1
 obtain ⟨s, rfl, hs⟩ := str1 h2
 exact hs
theorem arg24 {m : Nat} {ds : List D} (h : ArgOk Tryz.prog m 24 ds) : ∃ a b c d s nl xs, ds = [.i a, .i b, .i c, .i d, .s s, .l nl xs] ∧ s.length ≤ maxLen := by
 unfold ArgOk at h
 rw [kinds24] at h
 obtain ⟨_, _, rfl, h0, h⟩ := all2_cons h
 obtain ⟨_, _, rfl, h1, h⟩ := all2_cons h
 obtain ⟨_, _, rfl, h2, h⟩ := all2_cons h
 obtain ⟨_, _, rfl, h3, h⟩ := all2_cons h
 obtain ⟨_, _, rfl, h4, h⟩ := all2_cons h
 obtain ⟨_, _, rfl, h5, h⟩ := all2_cons h
 obtain rfl := all2_nil h
 obtain ⟨a, rfl⟩ := int1 h0
 obtain ⟨b, rfl⟩ := int1 h1
 obtain ⟨c, rfl⟩ := int1 h2
 obtain ⟨d, rfl⟩ := int1 h3
 obtain ⟨s, rfl, hs⟩ := str1 h4
 obtain ⟨nl, xs, rfl, _, _⟩ := sl1 h5
 exact ⟨a, b, c, d, s, nl, xs, rfl, hs⟩
theorem arg44 {m : Nat} {ds : List D} (h : ArgOk Tryz.prog m 44 ds) : ∃ s a b c d e f nl xs, ds = [.s s, .i a, .i b, .i c, .i d, .i e, .i f, .l nl xs] ∧ s.length ≤ maxLen ∧ xs.length ≤ maxLen ∧ ∀ j : Nat, ((xs.getD j (.i 0)).toS).length ≤ maxLen := by
 unfold ArgOk at h
 rw [kinds44] at h
 obtain ⟨_, _, rfl, h0, h⟩ := all2_cons h
 obtain ⟨_, _, rfl, h1, h⟩ := all2_cons h
 obtain ⟨_, _, rfl, h2, h⟩ := all2_cons h
 obtain ⟨_, _, rfl, h3, h⟩ := all2_cons h
 obtain ⟨_, _, rfl, h4, h⟩ := all2_cons h
 obtain ⟨_, _, rfl, h5, h⟩ := all2_cons h
 obtain ⟨_, _, rfl, h6, h⟩ := all2_cons h
 obtain ⟨_, _, rfl, h7, h⟩ := all2_cons h
 obtain rfl := all2_nil h
 obtain ⟨s, rfl, hs⟩ := str1 h0
 obtain ⟨a, rfl⟩ := int1 h1
 obtain ⟨b, rfl⟩ := int1 h2
 obtain ⟨c, rfl⟩ := int1 h3
 obtain ⟨d, rfl⟩ := int1 h4
 obtain ⟨e, rfl⟩ := int1 h5
 obtain ⟨f, rfl⟩ := int1 h6
 obtain ⟨nl, xs, rfl, hl, hx⟩ := sl1 h7
 refine ⟨s, a, b, c, d, e, f, nl, xs, rfl, hs, hl, fun j => ?_⟩
 by_cases hj : j < xs.length
 ·obtain ⟨m', hm⟩ := hx (xs.getD j (.i 0)) (by rw [List.getD_eq_getElem?_getD, List.getElem?_eq_getElem hj]; exact List.getElem_mem hj)
  exact strs9 hm
 ·rw [List.getD_eq_getElem?_getD, List.getElem?_eq_none (by omega)]
  exact Nat.zero_le _
theorem callLaw (m : Nat) (dss : List (List D)) (h : All2 (ArgOk Tryz.prog m) Tryz.f7.params.toList dss) (hsz : (dss.map szDs).sum ≤ 1048576) : CallOk Tryz.prog 7 (argVs Tryz.prog Tryz.f7.params.toList dss) [] ([.c (.b true)], []) := by
 have hp : Tryz.f7.params.toList = [24, 44] := by kernel_rfl
 rw [hp] at h ⊢
 match dss, h with
 | [d0, d1], ⟨h0, h1, _⟩ =>
  obtain ⟨a, b, c, d, s, nl, xs, rfl, hs⟩ := arg24 h0
  obtain ⟨t, p1, p2, p3, p4, p5, p6, nl', ys, rfl, ht, hl, hx⟩ := arg44 h1
  have hM : szDs xs ≤ 2097152 := by
   simp only [List.map_cons, List.sum_cons, szDs, szD] at hsz
   omega
  refine ok7x0 18446744073709551616 _ _ (A7x0 18446744073709551616 [.i a, .i b, .i c, .i d, .s s, .b nl, .l xs, .s t, .i p1, .i p2, .i p3, .i p4, .i p5, .i p6, .b nl', .l ys]) (by kernel_rfl) _ ?_
  have e : A7x0 18446744073709551616 [.i a, .i b, .i c, .i d, .s s, .b nl, .l xs, .s t, .i p1, .i p2, .i p3, .i p4, .i p5, .i p6, .b nl', .l ys] = bnd (G7x0 18446744073709551616 a b c d s nl xs t p1 p2 p3 p4 p5 p6 nl' ys) fun q => [(q.isSome, ([.c (.b (q.getD default))], []))] := by kernel_rfl
  rw [e, law7 (by decide) hM hs ht hl hx]
  rfl
theorem Tryz.own : ownKnob Tryz.prog.godebug = none := by kernel_rfl
theorem Tryz.laidOut : laidOutB Tryz.prog = true := by kernel_rfl
theorem bulkOk {H : Type} : BulkOk (Rows.uptoBulk : DataW H → Nat) Rows.uptoBulkAll := by
 refine ⟨fun l => ?_, fun l => ?_, ?_, fun e s => ?_, fun p => ?_, ?_, fun d r => ?_⟩
 ·cases l <;> simp [Rows.uptoBulk]
 ·simp [Rows.uptoBulk]
 ·simp [Rows.uptoBulk]
 ·simp only [Rows.uptoBulk]; omega
 ·simp [Rows.uptoBulk]
 ·simp [Rows.uptoBulkAll]
 ·simp [Rows.uptoBulkAll]
theorem g0 : Tryz.prog.globalNamed "internal/bytealg.MaxLen" = some 0 := by kernel_rfl
theorem g1 : Tryz.prog.globalNamed "internal/strconv.uint64pow10" = some 1 := by kernel_rfl
theorem g2 : Tryz.prog.globalNamed "strconv.ErrSyntax" = some 2 := by kernel_rfl
theorem g3 : Tryz.prog.globalNamed "strconv.ErrRange" = some 3 := by kernel_rfl
theorem giW {W : World} (hs : W.ShapedOpen Tryz.prog) (hl : laidMetH Tryz.prog Rows.askCondsMatchSpecUptoRow.laid W) {M : Stab} (hM : ∀ b o, ¬ M b o) : GI Tryz.prog M W := by
 have hl : laidMet Tryz.prog Rows.askCondsMatchSpecUptoRow.laid W := hl
 refine gi_of g0 g1 g2 g3 ?_ ?_ ?_ ?_ hM
 ·exact gat_int (t := 3) (zero := #[.int .i64 0]) hs (of_decide_eq_true (by kernel_rfl)) (by kernel_rfl) rfl (by kernel_rfl) (by kernel_rfl) (by kernel_rfl)
 ·obtain ⟨ps, hv, _⟩ := hl
  obtain ⟨g, t, cs, fuel, p, q1, q2, q3, q4⟩ := laid_get (x := ("internal/strconv.uint64pow10", Rows.laid_internal_strconv_uint64pow10)) hv (by simp [Rows.askCondsMatchSpecUptoRow])
  obtain rfl := Option.some.inj ((show (Tryz.prog.globals[1]?).map (·.type) = some 407 by kernel_rfl).symm.trans (by rw [Option.some.inj (g1.symm.trans q1)]; exact q2))
  have hcs := Lib.cells_of_tab (k := .u64) (zs := (List.range 20).map fun i => ((10 ^ i : Nat) : Int)) (n := 20) (e := 315) (t := 407) (by kernel_rfl) (by kernel_rfl) (by kernel_rfl) (by kernel_rfl) (show DataW.trod _ _ _ _ _ _ fuel 407 cs.toList = some (Lib.tabData .u64 ((List.range 20).map fun i => ((10 ^ i : Nat) : Int)), p) from q4)
  refine gat_tab (k := .u64) (zs := (List.range 20).map fun i => ((10 ^ i : Nat) : Int)) g1 (show W.var? Tryz.prog _ = _ by rw [q3, ← hcs]) (by simp) fun i p z h1 h2 => ?_
  rw [List.getElem?_map] at h1 h2
  obtain ⟨j, j1, rfl⟩ := Option.map_eq_some_iff.1 h1
  rw [j1] at h2
  simp only [Option.map_some, Option.some.injEq] at h2
  subst h2
  rfl
 ·exact gat_err (t := 209) hl (show ("strconv.ErrSyntax", Rows.laid_strconv_ErrSyntax) ∈ Rows.askCondsMatchSpecUptoRow.laid by simp [Rows.askCondsMatchSpecUptoRow]) g2 (by kernel_rfl) (by kernel_rfl)
 ·exact gat_err (t := 209) hl (show ("strconv.ErrRange", Rows.laid_strconv_ErrRange) ∈ Rows.askCondsMatchSpecUptoRow.laid by simp [Rows.askCondsMatchSpecUptoRow]) g3 (by kernel_rfl) (by kernel_rfl)
abbrev synS : ByteArray := { data := #[105, 110, 118, 97, 108, 105, 100, 32, 115, 121, 110, 116, 97, 120] }
abbrev rngS : ByteArray := { data := #[118, 97, 108, 117, 101, 32, 111, 117, 116, 32, 111, 102, 32, 114, 97, 110, 103, 101] }
noncomputable def low : Nat := (World.holding Tryz.prog default ⟨#[], #[], []⟩).heap.size
def tabOf {H : Type} : DataW H → Array Value
 | .agg l => (l.map fun | .lit (.int k n) => Value.int k n | _ => undef).toArray
 | _ => #[]
def setG (h : Array Obj) (g : Nat) (vs : Array Value) : Array Obj := h.modify g fun
 | .cells _ t fr => .cells vs t fr
 | o => o
noncomputable def laidWorld (os : Os) : World :=
 let w0 := World.holding Tryz.prog os ⟨#[.cells #[.string synS] 444, .cells #[.string rngS] 444], #[], []⟩
 { w0 with heap := setG (setG (setG (setG (setG w0.heap 1 (tabOf (H := Unit) Rows.laid_internal_strconv_uint64pow10)) 2 #[.iface 442 (.pointer (some ⟨low, 0, none⟩))]) 3 #[.iface 442 (.pointer (some ⟨low + 1, 0, none⟩))])
   4 (tabOf (H := Unit) Rows.laid_math_bits_deBruijn32tab)) 5 (tabOf (H := Unit) Rows.laid_math_bits_deBruijn64tab) }
def arg0 : Value := .agg #[.int .i64 0, .int .i64 0, .int .i64 0, .int .i64 0, .string ⟨#[]⟩, .slice none 0 0]
def arg1 : Value := .agg #[.string ⟨#[]⟩, .int .i64 0, .int .i64 0, .int .i64 0, .int .i64 0, .int .i64 0, .int .i64 0, .slice none 0 0]
def dat0 {H : Type} : DataW H := .agg [.lit (.int .i64 0), .lit (.int .i64 0), .lit (.int .i64 0), .lit (.int .i64 0), .lit (.string []), .nil]
def dat1 {H : Type} : DataW H := .agg [.lit (.string []), .lit (.int .i64 0), .lit (.int .i64 0), .lit (.int .i64 0), .lit (.int .i64 0), .lit (.int .i64 0), .lit (.int .i64 0), .nil]
theorem laid_met (os : Os) : laidMet Tryz.prog Rows.askCondsMatchSpecUptoRow.laid ((laidWorld os).forCall (fun _ _ => 0) ⟨#[], #[arg0, arg1], []⟩).memory :=
 laidMet_of_run' 8 (by kernel_rfl) (by kernel_rfl)
theorem reads (os : Os) {H : Type} (enc : TypeId × Value → H) : ∃ places, DataW.whole enc Tryz.prog ((laidWorld os).forCall (fun _ _ => 0) ⟨#[], #[arg0, arg1], []⟩).memory Tryz.f7.params.toList Rows.askCondsMatchSpecSpec.vars false #[arg0, arg1].toList 8 = some ([dat0, dat1], [], places) :=
 ⟨[], by kernel_rfl⟩
theorem liftedUpto (os : Os) (started : os.Started) (H : Type) (enc : TypeId × Value → H) (F : Stop.Interp) :
  ReturnsInHanded {} Tryz.checked os 7 .any ((Rows.OpenSpec.upto Rows.askCondsMatchSpecSpec).preRow enc Tryz.prog Tryz.f7 Rows.askCondsMatchSpecUptoRow.domain false Rows.askCondsMatchSpecUptoRow.laid) (((Rows.OpenSpec.upto Rows.askCondsMatchSpecSpec).at F).post enc Tryz.prog Tryz.f7 false true false false) := by
 obtain ⟨places, hx⟩ := reads os enc
 refine returnsInHanded_of_row (C := Tryz.checked) (s := Rows.OpenSpec.upto Rows.askCondsMatchSpecSpec) Tryz.own started (by kernel_rfl) Tryz.func7
  (witness_row_at (enc := enc) (C := Tryz.checked) false (laidWorld os) #[arg0, arg1] rfl (by kernel_rfl) (by kernel_rfl) (by kernel_rfl)
   (OpenSpec.preRow_of_cond 8 hx (by kernel_rfl) (fun k hk => by cases hk; kernel_rfl) (by kernel_rfl) (laid_met os))) ?_
 intro W base args ds gs before hval hW _ hcond _ hL hsh _
 have hgs : gs = [] := by
  obtain ⟨_, _, _, hv, _⟩ := hW
  cases gs with
  | nil => rfl
  | cons => exact hv.elim
 have hb := of_decide_eq_true (hcond _ rfl)
 rw [hgs, List.append_nil] at hb
 exact law_callR (tb := 4) bulkOk [24, 9] (by kernel_rfl) Tryz.laidOut rfl (by kernel_rfl) (by kernel_rfl) (by kernel_rfl) (fun l hl => by
  rw [show Tryz.f7.params.size = 2 by kernel_rfl] at hl
  match l, hl with
  | [_, _], _ => rfl) (fun m dss h hs => callLaw m dss h (Nat.le_trans hs hb)) (fun hM => giW hsh hL hM) hval hW
end Go.Proofs.YtmhaghcfopdifaaGreatDoor

