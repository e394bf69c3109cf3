/- A part of a proof of a law: lemmas. Conditions: those of each lemma. -/
import Derived.Test.YtpnacmnpahjpoaaGreatDoorWKp1
import Derived.KernelRfl
import Derived.Test.YtpnacmnpahjpoaaGreatDoorCards
import Derived.Test.YtpnacmnpahjpoaaGreatDoorTie
import Derived.Deep.DeepHandedRow
import Derived.ProofKit
set_option linter.all false
set_option maxRecDepth 100000
namespace Go.Proofs.YtpnacmnpahjpoaaGreatDoor
open Go Go.AM
set_option maxRecDepth 100000
set_option maxHeartbeats 4000000
variable {N : Nat}
def ltr (n : Int) : Bool := decide (97 ≤ n ∧ n ≤ 122 ∨ 65 ≤ n ∧ n ≤ 90 ∨ 48 ≤ n ∧ n ≤ 57 ∨ n = 45 ∨ n = 95 ∨ n = 46)
def nameB (s : List UInt8) : Bool := s.all (fun c => ltr (c.toNat : Int)) && decide (1 ≤ s.length ∧ s.length ≤ 60)
def inI (n a b : Int) : Bool := decide (a ≤ n ∧ n ≤ b)
theorem V48x0_eq (n a b : Int) : V48x0 N n a b = inI n a b := by
 unfold V48x0 F48x0 inI
 rw [Bool.eq_iff_iff]; simp
theorem V49x0_eq (n a b : Int) : V49x0 N n a b = !inI n a b := by
 unfold V49x0 F49x0 inI
 rw [Bool.eq_iff_iff]; simp <;> omega
theorem G30x0_eq (hN : maxLen < N) {s : List UInt8} (hs : s.length ≤ maxLen) : G30x0 N s = some (nameB s) := by
 have h : G30x0x6 N s s.length 0 = some (bif s.all (fun c => ltr (c.toNat : Int)) then .inr () else .inl ()) := by
  unfold G30x0x6
  refine (for_ind (0 : UInt8) (S := fun w kr => S30x0x6 N s s.length w kr _ _) (L := fun m w => L30x0x6 N s s.length m w _ _) (fun m w => rfl) (fun _ l => some (bif l.all (fun c => ltr (c.toNat : Int)) then .inr () else .inl ())) hs ?_ ?_ hN).trans rfl
  ·intro kr; simp [S30x0x6]
  ·intro w kr h0 h1 hw hi hk
   simp only [S30x0x6, decide_eq_true h1, _root_.cond_true, hi, bnd_eq, hw, hk, List.all_cons, V30x0x19, F30x0x19, V56x0, F56x0]
   generalize ((s.getD w.toNat 0).toNat : Int) = n
   refine (cond_congr (c' := !ltr n) ?_).trans ?_
   ·rw [Bool.eq_iff_iff]; simp [ltr]; omega
   ·cases ltr n <;> rfl
 unfold G30x0 F30x0
 rw [h]
 unfold nameB
 cases s.all (fun c => ltr (c.toNat : Int)) with
 | false => rfl
 | true =>
  simp only [bnd_eq, inlB_inr, inrQ_inr, _root_.cond_true, _root_.cond_false, Option.isSome_some, Bool.true_and]
  congr 1
  rw [Bool.eq_iff_iff]; simp; omega
theorem G33x0_eq (hN : maxLen < N) {s : List UInt8} (hs : s.length ≤ maxLen) : G33x0 N s = some (nameB s) := by
 have h : G33x0x12 N s 0 = some (bif s.all (fun c => ltr (c.toNat : Int)) then .inr () else .inl ()) := by
  unfold G33x0x12
  refine (for_ind (0 : UInt8) (S := fun w kr => S33x0x12 N s w kr _ _) (L := fun m w => L33x0x12 N s m w _ _) (fun m w => rfl) (fun _ l => some (bif l.all (fun c => ltr (c.toNat : Int)) then .inr () else .inl ())) hs ?_ ?_ hN).trans rfl
  ·intro kr; simp [S33x0x12]
  ·intro w kr h0 h1 hw hi hk
   simp only [S33x0x12, decide_eq_true h1, _root_.cond_true, hi, bnd_eq, hw, hk, List.all_cons, V33x0x25, F33x0x25, V59x0, F59x0]
   generalize ((s.getD w.toNat 0).toNat : Int) = n
   refine (cond_congr (c' := !ltr n) ?_).trans ?_
   ·rw [Bool.eq_iff_iff]; simp [ltr]; omega
   ·cases ltr n <;> rfl
 unfold G33x0 F33x0
 rw [h]
 unfold nameB
 simp only [bnd_eq]
 have e : (bif decide ((s.length : Int) < 1) then true else decide ((s.length : Int) > 60)) = !decide (1 ≤ s.length ∧ s.length ≤ 60) := by
  rw [Bool.eq_iff_iff]; simp only [Bool.cond_true_left, Bool.or_eq_true, decide_eq_true_eq, Bool.not_eq_true', decide_eq_false_iff_not]; omega
 rw [e]
 cases decide (1 ≤ s.length ∧ s.length ≤ 60) with
 | false => simp
 | true => cases s.all (fun c => ltr (c.toNat : Int)) <;> rfl
def mostOf (ms : Int) (pct : Bool) : Int := if pct then 300 else if ms = 1 then 3000 else if ms = 2 then 300 else if ms = 3 then 300 else 36000
def noAim (ms : Int) (pct : Bool) (lo hi : Int) : Bool := (ms == 0) && ((pct == false) && ((lo == 0) && ((hi == 0) && true)))
def aimE (k ms : Int) (pct : Bool) (lo hi : Int) : Int :=
 if inI ms 0 4 = false then 7 else
 if ms = 0 then (if noAim ms pct lo hi = false ∨ k = 2 then 2 else 0) else
 if pct = true ∧ ms = 3 then 2 else
 if inI lo 1 (mostOf ms pct) = false ∨ inI hi 1 (mostOf ms pct) = false then 9 else
 if lo > hi ∧ k ≠ 2 then 10 else 0
def formF (sec way tm : Int) (n : Nat) : Bool := decide (tm ≠ 0 ∨ 0 < n ∨ ((sec = 0) ↔ (way = 0)))
def longF (sec way : Int) : Bool := !inI sec 0 3599999 || !inI way 0 1000000000
def stepE (k : Int) (nm : List UInt8) (sec way ms : Int) (pct : Bool) (lo hi tm : Int) (n : Nat) : Int :=
 bif !nameB nm then 8 else bif formF sec way tm n then 2 else bif longF sec way then 9 else aimE k ms pct lo hi
def repE (nm : List UInt8) (sec way ms : Int) (pct : Bool) (lo hi tm : Int) (n : Nat) : Int :=
 if nm ≠ [] ∨ sec ≠ 0 ∨ way ≠ 0 ∨ noAim ms pct lo hi = false then 2 else
 if inI tm 1 99 = false then 9 else if n = 0 then 13 else 0
theorem bif_if {A : Type} {b : Bool} {p : Prop} [Decidable p] {x y : A} (h : b = true ↔ p) : (bif b then x else y) = if p then x else y := by
 cases b with
 | true => rw [if_pos (h.1 rfl)]; rfl
 | false => rw [if_neg fun q => by cases h.2 q]; rfl
theorem V83x0_eq (k ms : Int) (pct : Bool) (lo hi : Int) : V83x0 N k ms pct lo hi = aimE k ms pct lo hi := by
 unfold V83x0 F83x0 aimE
 simp only [bnd_eq, V49x0_eq]
 rw [bif_if (p := inI ms 0 4 = false) (by simp)]
 by_cases h1 : inI ms 0 4 = false
 ·rw [if_pos h1, if_pos h1]
 rw [if_neg h1, if_neg h1, bif_if (p := ms = 0) (by simp)]
 by_cases h2 : ms = 0
 ·rw [if_pos h2, if_pos h2]
  refine bif_if ?_
  unfold noAim
  cases (ms == 0) && ((pct == false) && ((lo == 0) && ((hi == 0) && true))) <;> simp
 rw [if_neg h2, if_neg h2, bif_if (p := pct = true ∧ ms = 3) (by cases pct <;> simp)]
 by_cases h3 : pct = true ∧ ms = 3
 ·rw [if_pos h3, if_pos h3]
 rw [if_neg h3, if_neg h3]
 have em : V83x0x38 N (V88x0 N ms) pct = mostOf ms pct := by
  unfold V83x0x38 F83x0x38 V88x0 F88x0 mostOf
  cases pct with
  | true => rfl
  | false =>
   simp only [_root_.cond_false]
   rw [bif_if (p := ms = 1) (by simp), bif_if (p := ms = 2) (by simp), bif_if (p := ms = 3) (by simp)]
   simp
 rw [em]
 have eb : V83x0x40 N (mostOf ms pct) lo hi = (!inI lo 1 (mostOf ms pct) || !inI hi 1 (mostOf ms pct)) := by
  unfold V83x0x40 F83x0x40
  simp only [bnd_eq, V49x0_eq]
  cases inI lo 1 (mostOf ms pct) <;> rfl
 rw [eb, bif_if (p := inI lo 1 (mostOf ms pct) = false ∨ inI hi 1 (mostOf ms pct) = false) (by simp)]
 by_cases h4 : inI lo 1 (mostOf ms pct) = false ∨ inI hi 1 (mostOf ms pct) = false
 ·rw [if_pos h4, if_pos h4]
 rw [if_neg h4, if_neg h4]
 refine bif_if ?_
 by_cases h5 : lo > hi <;> simp [h5]
theorem formB (tm sec way : Int) (n : Nat) : (bif (bif (tm != 0) then true else (decide ((n : Int) > 0))) then true else ((sec == 0) == (way == 0))) = formF sec way tm n := by
 unfold formF
 have e1 : (tm != 0) = decide (tm ≠ 0) := by by_cases h : tm = 0 <;> simp [h]
 have e2 : ∀ z : Int, (z == 0) = decide (z = 0) := fun z => by by_cases h : z = 0 <;> simp [h]
 rw [e1, e2, e2, Bool.eq_iff_iff]
 simp only [Bool.cond_true_left, Bool.or_eq_true, decide_eq_true_eq, gt_iff_lt, beq_iff_eq, decide_eq_decide, or_assoc]
 omega
theorem cond_some {A : Type} {b : Bool} {x y : A} : (bif b then some x else some y) = some (bif b then x else y) := by cases b <;> rfl
theorem G60x0_eq (hN : maxLen < N) {k : Int} {nm : List UInt8} {sec way ms : Int} {pct : Bool} {lo hi tm : Int} {l : List D} (hs : nm.length ≤ maxLen) : G60x0 N k nm sec way ms pct lo hi tm l = some (stepE k nm sec way ms pct lo hi tm l.length) := by
 have e : V60x0x16 N sec way = longF sec way := by
  unfold V60x0x16 F60x0x16 longF
  simp only [bnd_eq, V49x0_eq]
  cases inI sec 0 3599999 <;> rfl
 unfold G60x0 F60x0 stepE
 rw [G33x0_eq hN hs]
 simp only [bnd_eq, Option.isSome_some, _root_.cond_true, getD_some, V83x0_eq, e, formB, cond_some]
theorem two (P Q : Prop) [Decidable P] [Decidable Q] : (bif decide P then some 9 else bif decide Q then some 10 else some (0 : Int)) = some (if P then 9 else if Q then 10 else 0) := by
 by_cases h1 : P <;> by_cases h2 : Q <;> simp [h1, h2]
theorem G57x0_eq (hN : maxLen < N) {k : Int} {nm : List UInt8} {sec way ms : Int} {pct : Bool} {lo hi tm : Int} {l : List D} (hs : nm.length ≤ maxLen) (hk : k = 1 ∨ k = 2) : G57x0 N k nm sec way ms pct lo hi tm l = some (stepE k nm sec way ms pct lo hi tm l.length) := by
 have e : V57x0x19 N sec way = longF sec way := by
  unfold V57x0x19 F57x0x19 longF
  simp only [bnd_eq, V48x0_eq]
  cases inI sec 0 3599999 <;> rfl
 have e0 : V57x0x12002 N (bif (tm != 0) then true else (decide ((l.length : Int) > 0))) sec way = formF sec way tm l.length := by
  rw [← formB]
  unfold V57x0x12002 F57x0x12002
  rfl
 unfold G57x0 F57x0 stepE
 rw [G30x0_eq hN hs]
 simp only [bnd_eq, Option.isSome_some, _root_.cond_true, getD_some, V48x0_eq, e, e0]
 rw [← cond_some]
 congr 1
 rw [← cond_some]
 congr 1
 rw [← cond_some]
 congr 1
 have eb : ∀ q, V57x0x58 N q lo hi = decide (inI lo 1 q = false ∨ inI hi 1 q = false) := fun q => by
  unfold V57x0x58 F57x0x58
  simp only [bnd_eq, V48x0_eq]
  cases inI lo 1 q <;> cases inI hi 1 q <;> rfl
 have ek : (bif decide (lo > hi) then k == 1 else false) = decide (lo > hi ∧ k ≠ 2) := by
  rw [Bool.eq_iff_iff]
  rcases hk with rfl | rfl <;> by_cases h5 : lo > hi <;> simp [h5]
 simp only [V57x0x36002, F57x0x36002, V57x0x56, F57x0x56, eb, ek]
 unfold aimE
 cases h3 : inI ms 0 4 with
 | false => rfl
 | true =>
 rw [if_neg (by simp)]
 have em : ms = 0 ∨ ms = 1 ∨ ms = 2 ∨ ms = 3 ∨ ms = 4 := by
  simp only [inI, decide_eq_true_eq] at h3
  omega
 rcases em with rfl | rfl | rfl | rfl | rfl
 ·have key : ∀ b : Bool, (bif (bif (bif !b then true else k == 2) then true else bif pct then false else false) then some 2 else some (0 : Int)) = some (if b = false ∨ k = 2 then 2 else 0) := by
   intro b
   cases b <;> cases pct <;> rcases hk with rfl | rfl <;> rfl
  exact key (noAim 0 pct lo hi)
 all_goals
  cases pct
  all_goals
   first | rfl | exact two _ _
theorem V58x0_eq {nm : List UInt8} {sec way ms : Int} {pct : Bool} {lo hi tm : Int} {l : List D} : V58x0 N nm sec way ms pct lo hi tm l = repE nm sec way ms pct lo hi tm l.length := by
 unfold V58x0 F58x0 repE
 simp only [bnd_eq, V48x0_eq]
 rw [bif_if (p := nm ≠ [] ∨ sec ≠ 0 ∨ way ≠ 0 ∨ noAim ms pct lo hi = false) (by
  unfold noAim
  cases (ms == 0) && ((pct == false) && ((lo == 0) && ((hi == 0) && true))) <;> by_cases h1 : nm = [] <;> by_cases h2 : sec = 0 <;> by_cases h3 : way = 0 <;> simp [h1, h2, h3]), bif_if (p := inI tm 1 99 = false) (by simp), bif_if (p := l.length = 0) (by simp)]
end Go.Proofs.YtpnacmnpahjpoaaGreatDoor

namespace Go.Proofs.YtpnacmnpahjpoaaGreatDoor
open Go Go.AM
set_option maxRecDepth 100000
set_option maxHeartbeats 4000000
variable {N : Nat}
theorem szD_pos (x : D) : 1 ≤ szD x := by
 cases x <;> simp [szD]
theorem szDs_mem : ∀ {l : List D} {x : D}, x ∈ l → szD x ≤ szDs l
 | y :: l, x, h => by
  simp only [szDs]
  rcases List.mem_cons.1 h with rfl | h
  ·omega
  ·have := szDs_mem h; omega
theorem szD_cell (x : D) (j : Nat) : x.cell j = .i 0 ∨ szD (x.cell j) < szD x := by
 cases x with
 | a cs =>
  simp only [D.cell, szD]
  by_cases hj : j < cs.length
  ·right
   have : cs.getD j (.i 0) ∈ cs := by rw [List.getD_eq_getElem?_getD, List.getElem?_eq_getElem hj]; exact List.getElem_mem hj
   have := szDs_mem this
   omega
  ·left; rw [List.getD_eq_getElem?_getD, List.getElem?_eq_none (by omega)]; rfl
 | _ => left; rfl
theorem kids_lt (x : D) (j : Nat) : szDs (x.cell j).items < szD x := by
 have h1 := szD_pos x
 rcases szD_cell x j with h | h
 ·rw [h]; exact h1
 ·cases hc : x.cell j with
  | l nl xs => rw [hc] at h; simp only [szD] at h; simp only [D.items]; omega
  | _ => exact h1
theorem getD_memD {l : List D} {w : Int} (h0 : 0 ≤ w) (h1 : w < l.length) : l.getD w.toNat (.i 0) ∈ l := by
 have hl : w.toNat < l.length := by omega
 rw [List.getD_eq_getElem?_getD, List.getElem?_eq_getElem hl]; exact List.getElem_mem hl
theorem for_acc {A X : Type} {xs : List D} {S : Int → A → (Int → A → X) → X} {L : Nat → Int → A → X} (hL : ∀ m w a, L (m + 1) w a = S w a (L m)) (Inv : Int → A → Prop) (spec : List D → A → X) (hlen : xs.length ≤ maxLen)
  (hend : ∀ a kr, Inv xs.length a → S xs.length a kr = spec [] a)
  (hstep : ∀ (w : Int) (a : A) (kr : Int → A → X) (x : D) (r : List D), x ∈ xs → 0 ≤ w → w < xs.length → IntKind.wrap .i64 (w + 1) = w + 1 → inB w xs.length = true → xs.getD w.toNat (.i 0) = x → xs.drop (w + 1).toNat = r → Inv w a → (∀ a', Inv (w + 1) a' → kr (w + 1) a' = spec r a') → S w a kr = spec (x :: r) a)
  {N : Nat} (hN : maxLen < N) (a : A) (h0 : Inv 0 a) : L N 0 a = spec xs a := by
 have hm : maxLen = 9223372036854775807 := rfl
 have key : ∀ (n m : Nat) (w : Int) (a : A), 0 ≤ w → w ≤ xs.length → xs.length - w.toNat = n → n < m → Inv w a → L m w a = spec (xs.drop w.toNat) a := by
  intro n
  induction n with
  | zero =>
   intro m w a hw0 hw1 hn hm' hi
   obtain ⟨m, rfl⟩ : ∃ m', m = m' + 1 := ⟨m - 1, by omega⟩
   have hw : w = xs.length := by omega
   subst hw
   rw [hL, hend a _ hi, List.drop_eq_nil_of_le (by omega)]
  | succ n ih =>
   intro m w a hw0 hw1 hn hm' hi
   obtain ⟨m, rfl⟩ : ∃ m', m = m' + 1 := ⟨m - 1, by omega⟩
   have hw : w < xs.length := by omega
   rw [hL, drop_at (.i 0) hw0 hw]
   exact hstep w a _ _ _ (getD_memD hw0 hw) hw0 hw (wrapI (by omega) (by omega)) (inB_of hw0 hw) rfl rfl hi fun a' hi' => ih m (w + 1) a' (by omega) (by omega) (by omega) (by omega) hi'
 have := key xs.length N 0 a (by omega) (by omega) rfl (by omega) h0
 simpa using this
inductive It where
 | mk (k : Int) (nm : List UInt8) (sec way ms : Int) (pct : Bool) (lo hi tm : Int) (its : List It)
def itOf (d : D) : It := .mk (d.cell 0).toI (d.cell 1).toS (d.cell 2).toI (d.cell 3).toI (d.cell 4).toI (d.cell 5).toB (d.cell 6).toI (d.cell 7).toI (d.cell 8).toI ((d.cell 9).items.attach.map fun x => itOf x.1)
termination_by szD d
decreasing_by
 have h1 := szDs_mem x.2
 have h2 := kids_lt d 9
 omega
def its (l : List D) : List It := l.map itOf
theorem itOf_eq (d : D) : itOf d = .mk (d.cell 0).toI (d.cell 1).toS (d.cell 2).toI (d.cell 3).toI (d.cell 4).toI (d.cell 5).toB (d.cell 6).toI (d.cell 7).toI (d.cell 8).toI (its (d.cell 9).items) := by
 rw [itOf]
 congr 1
 unfold its
 rw [List.map_attach_eq_pmap, List.pmap_eq_map]
theorem its_length (l : List D) : (its l).length = l.length := List.length_map ..
def okN : Nat → List D → Prop
 | 0, _ => False
 | m + 1, l => l.length ≤ maxLen ∧ ∀ x ∈ l, (x.cell 1).toS.length ≤ maxLen ∧ okN m (x.cell 9).items
def It.kind : It → Int
 | .mk k .. => k
def It.tm : It → Int
 | .mk _ _ _ _ _ _ _ _ tm _ => tm
mutual
def ck : It → Int → Int → Int × Int
 | .mk k nm sec way ms pct lo hi tm its, nest, many =>
  if many + 1 > 200 ∨ nest > 3 then (3, many + 1) else
  if k = 1 ∨ k = 2 then (stepE k nm sec way ms pct lo hi tm its.length, many + 1) else
  if k = 3 then (if repE nm sec way ms pct lo hi tm its.length = 0 then ckL its (nest + 1) (many + 1) else (repE nm sec way ms pct lo hi tm its.length, many + 1)) else
  (7, many + 1)
def ckL : List It → Int → Int → Int × Int
 | [], _, many => (0, many)
 | x :: r, nest, many => if (ck x nest many).1 = 0 then ckL r nest (ck x nest many).2 else ck x nest many
end
mutual
theorem ck_many : ∀ (x : It) (nest many : Int), (ck x nest many).1 = 0 → many < (ck x nest many).2 ∧ (ck x nest many).2 ≤ 200
 | .mk k nm sec way ms pct lo hi tm its, nest, many => by
  intro h
  simp only [ck] at h ⊢
  by_cases h1 : many + 1 > 200 ∨ nest > 3
  ·rw [if_pos h1] at h; cases h
  rw [if_neg h1] at h ⊢
  by_cases h2 : k = 1 ∨ k = 2
  ·rw [if_pos h2]; simp only; omega
  rw [if_neg h2] at h ⊢
  by_cases h3 : k = 3
  ·rw [if_pos h3] at h ⊢
   by_cases h4 : repE nm sec way ms pct lo hi tm its.length = 0
   ·rw [if_pos h4] at h ⊢
    have := ckL_many its (nest + 1) (many + 1) (by omega) h
    omega
   ·rw [if_neg h4] at h; exact absurd h h4
  ·rw [if_neg h3] at h; cases h
theorem ckL_many : ∀ (l : List It) (nest many : Int), many ≤ 200 → (ckL l nest many).1 = 0 → many + l.length ≤ (ckL l nest many).2 ∧ (ckL l nest many).2 ≤ 200
 | [], nest, many => by
  intro hm _
  simp only [ckL, List.length_nil]; omega
 | x :: r, nest, many => by
  intro hm h
  simp only [ckL] at h ⊢
  by_cases h1 : (ck x nest many).1 = 0
  ·rw [if_pos h1] at h ⊢
   have h2 := ck_many x nest many h1
   have h3 := ckL_many r nest (ck x nest many).2 h2.2 h
   simp only [List.length_cons]
   omega
  ·rw [if_neg h1] at h; exact absurd h h1
end
def oc (p : Int × Int) : Sum (Int × Int) Int := if p.1 = 0 then .inr p.2 else .inl p
def oe (p : Int × Int) : Sum Int Int := if p.1 = 0 then .inr p.2 else .inl p.1
theorem repB {R : Type} {nm : List UInt8} {sec way ms : Int} {pct : Bool} {lo hi tm : Int} {n : Nat} {k0 : Int → R} {z : R} :
  (bif (bif (bif (bif (!(nm == ([] : List UInt8))) then true else sec != 0) then true else way != 0) then true else (!((ms == 0) && ((pct == false) && ((lo == 0) && ((hi == 0) && true)))))) then k0 2 else
   bif (!inI tm 1 99) then k0 9 else bif ((n : Int) == 0) then k0 13 else z) = if repE nm sec way ms pct lo hi tm n = 0 then z else k0 (repE nm sec way ms pct lo hi tm n) := by
 unfold repE
 rw [bif_if (p := nm ≠ [] ∨ sec ≠ 0 ∨ way ≠ 0 ∨ noAim ms pct lo hi = false) (by
  unfold noAim
  cases (ms == 0) && ((pct == false) && ((lo == 0) && ((hi == 0) && true))) <;> by_cases h1 : nm = [] <;> by_cases h2 : sec = 0 <;> by_cases h3 : way = 0 <;> simp [h1, h2, h3]), bif_if (p := inI tm 1 99 = false) (by simp), bif_if (p := n = 0) (by simp)]
 by_cases h1 : nm ≠ [] ∨ sec ≠ 0 ∨ way ≠ 0 ∨ noAim ms pct lo hi = false
 ·simp only [if_pos h1]; rfl
 simp only [if_neg h1]
 by_cases h2 : inI tm 1 99 = false
 ·simp only [if_pos h2]; rfl
 simp only [if_neg h2]
 by_cases h3 : n = 0
 ·simp only [if_pos h3]; rfl
 ·simp only [if_neg h3, if_true]
theorem ck_eq (x : D) (nest many : Int) : ck (itOf x) nest many = if many + 1 > 200 ∨ nest > 3 then (3, many + 1) else
  if (x.cell 0).toI = 1 ∨ (x.cell 0).toI = 2 then (stepE (x.cell 0).toI (x.cell 1).toS (x.cell 2).toI (x.cell 3).toI (x.cell 4).toI (x.cell 5).toB (x.cell 6).toI (x.cell 7).toI (x.cell 8).toI (x.cell 9).items.length, many + 1) else
  if (x.cell 0).toI = 3 then (if repE (x.cell 1).toS (x.cell 2).toI (x.cell 3).toI (x.cell 4).toI (x.cell 5).toB (x.cell 6).toI (x.cell 7).toI (x.cell 8).toI (x.cell 9).items.length = 0 then ckL (its (x.cell 9).items) (nest + 1) (many + 1) else (repE (x.cell 1).toS (x.cell 2).toI (x.cell 3).toI (x.cell 4).toI (x.cell 5).toB (x.cell 6).toI (x.cell 7).toI (x.cell 8).toI (x.cell 9).items.length, many + 1)) else
  (7, many + 1) := by
 rw [itOf_eq, ck, its_length]
theorem R31_eq (hN : maxLen < N) : ∀ (m d : Nat) (nl : Bool) (l : List D) (nest many : Int), okN d l → 0 ≤ nest → nest ≤ 4 → 5 ≤ nest + m → 0 ≤ many → many ≤ 200 → R31x1 N m nl l nest many = some (ckL (its l) nest many)
 | 0, _, _, _, _, _, _, _, _, _, _, _ => by omega
 | _, 0, _, _, _, _, h, _, _, _, _, _ => h.elim
 | m + 1, d + 1, nl, l, nest, many, hok, h0, h4, h5, hm0, hm1 => by
  show G31x1 N (R31x1 N m) nl l nest many = _
  have kid : ∀ x ∈ l, ∀ k, nest ≤ 3 → 0 ≤ k → k ≤ 200 → R31x1 N m (x.cell 9).isNil (x.cell 9).items (nest + 1) k = some (ckL (its (x.cell 9).items) (nest + 1) k) := fun x hx k hn k0 k1 =>
   R31_eq hN m d _ _ _ _ (hok.2 x hx).2 (by omega) (by omega) (by omega) k0 k1
  generalize R31x1 N m = rc at kid ⊢
  have e : G31x1x6 N rc nest l (l.length : Int) 0 many = some (oc (ckL (its l) nest many)) := by
   unfold G31x1x6
   refine for_acc (A := Int) (S := fun w a kr => S31x1x6 N rc nest l (l.length : Int) w a kr (fun p => some (Sum.inl p)) (fun p => some (Sum.inr p))) (L := fun m w a => L31x1x6 N rc nest l (l.length : Int) m w a (fun p => some (Sum.inl p)) (fun p => some (Sum.inr p))) (fun m w a => rfl)
    (fun w a => 0 ≤ a ∧ a ≤ 200) (fun r a => some (oc (ckL (its r) nest a))) hok.1 ?_ ?_ hN many ⟨hm0, hm1⟩
   ·intro a kr _
    simp [S31x1x6, its, ckL, oc]
   ·intro w a kr x r hx hw0 hw1 hw hi hk hr ⟨ha0, ha1⟩ ih
    have hmm : maxLen = 9223372036854775807 := rfl
    have wa : IntKind.wrap .i64 (a + 1) = a + 1 := wrapI (by omega) (by omega)
    have wn : IntKind.wrap .i64 (nest + 1) = nest + 1 := wrapI (by omega) (by omega)
    simp only [S31x1x6, decide_eq_true hw1, _root_.cond_true, hi, bnd_eq, hk, hw, wa]
    show _ = some (oc (ckL (itOf x :: its r) nest a))
    rw [ckL, bif_if (p := a + 1 > 200 ∨ nest > 3) (by simp)]
    by_cases c1 : a + 1 > 200 ∨ nest > 3
    ·rw [if_pos c1, ck_eq, if_pos c1]
     rfl
    rw [if_neg c1]
    have hv : V31x1x33002 N rc (x.cell 0).toI ((x.cell 0).toI == 1) = decide ((x.cell 0).toI = 1 ∨ (x.cell 0).toI = 2) := by
     unfold V31x1x33002 F31x1x33002
     rw [Bool.eq_iff_iff]; simp
    have hg : G31x1x39038 N rc nest (x.cell 0).toI (decide ((x.cell 0).toI = 1 ∨ (x.cell 0).toI = 2)) (a + 1) (x.cell 0).toI (x.cell 1).toS (x.cell 2).toI (x.cell 3).toI (x.cell 4).toI (x.cell 5).toB (x.cell 6).toI (x.cell 7).toI (x.cell 8).toI (x.cell 9).isNil (x.cell 9).items = some (ck (itOf x) nest a) := by
     rw [ck_eq, if_neg c1]
     unfold G31x1x39038 F31x1x39038
     by_cases c2 : (x.cell 0).toI = 1 ∨ (x.cell 0).toI = 2
     ·rw [decide_eq_true c2, if_pos c2, G57x0_eq hN (hok.2 x hx).1 c2]
      rfl
     rw [decide_eq_false c2, if_neg c2]
     unfold G31x1x27044 F31x1x27044
     by_cases c3 : (x.cell 0).toI = 3
     ·rw [if_pos c3, V58x0_eq, show ((x.cell 0).toI == 3) = true by simp [c3]]
      simp only [_root_.cond_true, _root_.cond_false, bnd_eq]
      unfold G31x1x50 F31x1x50
      by_cases c4 : repE (x.cell 1).toS (x.cell 2).toI (x.cell 3).toI (x.cell 4).toI (x.cell 5).toB (x.cell 6).toI (x.cell 7).toI (x.cell 8).toI (x.cell 9).items.length = 0
      ·rw [if_pos c4, c4, wn, kid x hx (a + 1) (by omega) (by omega) (by omega)]
       rfl
      ·rw [if_neg c4, show (repE (x.cell 1).toS (x.cell 2).toI (x.cell 3).toI (x.cell 4).toI (x.cell 5).toB (x.cell 6).toI (x.cell 7).toI (x.cell 8).toI (x.cell 9).items.length == 0) = false by simp [c4]]
       rfl
     ·rw [if_neg c3, show ((x.cell 0).toI == 3) = false by simp [c3]]
      rfl
    rw [hv, hg]
    simp only [Option.isSome_some, _root_.cond_true, getD_some]
    by_cases c5 : (ck (itOf x) nest a).1 = 0
    ·have hb := ck_many _ _ _ c5
     rw [if_pos c5, show ((ck (itOf x) nest a).1 != 0) = false by simp [c5]]
     exact ih _ ⟨by omega, by omega⟩
    ·rw [if_neg c5, show ((ck (itOf x) nest a).1 != 0) = true by simp [c5]]
     unfold oc
     rw [if_neg c5]
     rfl
  unfold G31x1 F31x1
  rw [e]
  unfold oc
  by_cases c : (ckL (its l) nest many).1 = 0
  ·rw [if_pos c]
   show some (0, (ckL (its l) nest many).2) = _
   rw [← c]
  ·rw [if_neg c]
   rfl
theorem R34_eq (hN : maxLen < N) : ∀ (m d : Nat) (nl : Bool) (l : List D) (nest many : Int), okN d l → 0 ≤ nest → nest ≤ 4 → 5 ≤ nest + m → 0 ≤ many → many ≤ 200 → R34x1 N m nl l nest many = some (if (ckL (its l) nest many).1 = 0 then ((ckL (its l) nest many).2, 0) else (0, (ckL (its l) nest many).1))
 | 0, _, _, _, _, _, _, _, _, _, _, _ => by omega
 | _, 0, _, _, _, _, h, _, _, _, _, _ => h.elim
 | m + 1, d + 1, nl, l, nest, many, hok, h0, h4, h5, hm0, hm1 => by
  show G34x1 N (R34x1 N m) nl l nest many = _
  have kid : ∀ x ∈ l, ∀ k, nest ≤ 3 → 0 ≤ k → k ≤ 200 → R34x1 N m (x.cell 9).isNil (x.cell 9).items (nest + 1) k = some (if (ckL (its (x.cell 9).items) (nest + 1) k).1 = 0 then ((ckL (its (x.cell 9).items) (nest + 1) k).2, 0) else (0, (ckL (its (x.cell 9).items) (nest + 1) k).1)) := fun x hx k hn k0 k1 =>
   R34_eq hN m d _ _ _ _ (hok.2 x hx).2 (by omega) (by omega) (by omega) k0 k1
  generalize R34x1 N m = rc at kid ⊢
  have e : G34x1x6 N rc nest l (l.length : Int) many 0 = some (oe (ckL (its l) nest many)) := by
   unfold G34x1x6
   refine for_acc (A := Int) (S := fun w a kr => S34x1x6 N rc nest l (l.length : Int) a w (fun a w => kr w a) (fun p => some (Sum.inl p)) (fun p => some (Sum.inr p))) (L := fun m w a => L34x1x6 N rc nest l (l.length : Int) m a w (fun p => some (Sum.inl p)) (fun p => some (Sum.inr p))) (fun m w a => rfl)
    (fun w a => 0 ≤ a ∧ a ≤ 200) (fun r a => some (oe (ckL (its r) nest a))) hok.1 ?_ ?_ hN many ⟨hm0, hm1⟩
   ·intro a kr _
    simp [S34x1x6, its, ckL, oe]
   ·intro w a kr x r hx hw0 hw1 hw hi hk hr ⟨ha0, ha1⟩ ih
    have hmm : maxLen = 9223372036854775807 := rfl
    have wa : IntKind.wrap .i64 (a + 1) = a + 1 := wrapI (by omega) (by omega)
    have wn : IntKind.wrap .i64 (nest + 1) = nest + 1 := wrapI (by omega) (by omega)
    simp only [S34x1x6, decide_eq_true hw1, _root_.cond_true, hi, bnd_eq, hk, hw, wa]
    show _ = some (oe (ckL (itOf x :: its r) nest a))
    rw [ckL, bif_if (p := a + 1 > 200 ∨ nest > 3) (by simp)]
    by_cases c1 : a + 1 > 200 ∨ nest > 3
    ·rw [if_pos c1, ck_eq, if_pos c1]
     rfl
    rw [if_neg c1]
    have hv : V34x1x30002 N rc (x.cell 0).toI ((x.cell 0).toI == 1) = decide ((x.cell 0).toI = 1 ∨ (x.cell 0).toI = 2) := by
     unfold V34x1x30002 F34x1x30002
     rw [Bool.eq_iff_iff]; simp
    rw [hv, ck_eq, if_neg c1, bif_if decide_eq_true_iff]
    by_cases c2 : (x.cell 0).toI = 1 ∨ (x.cell 0).toI = 2
    ·simp only [if_pos c2]
     rw [G60x0_eq hN (hok.2 x hx).1]
     simp only [Option.isSome_some, _root_.cond_true, getD_some]
     generalize stepE (x.cell 0).toI (x.cell 1).toS (x.cell 2).toI (x.cell 3).toI (x.cell 4).toI (x.cell 5).toB (x.cell 6).toI (x.cell 7).toI (x.cell 8).toI (x.cell 9).items.length = z
     by_cases c5 : z = 0
     ·rw [if_pos c5, show (z != 0) = false by simp [c5]]
      exact ih _ ⟨by omega, by omega⟩
     ·rw [if_neg c5, show (z != 0) = true by simp [c5]]
      unfold oe
      rw [if_neg c5]
      rfl
    simp only [if_neg c2]
    by_cases c3 : (x.cell 0).toI = 3
    ·simp only [if_pos c3]
     rw [show ((x.cell 0).toI == 3) = true by simp [c3]]
     simp only [_root_.cond_true, bnd_eq, V49x0_eq]
     refine (repB (k0 := fun p => some (Sum.inl p))).trans ?_
     generalize hz : repE (x.cell 1).toS (x.cell 2).toI (x.cell 3).toI (x.cell 4).toI (x.cell 5).toB (x.cell 6).toI (x.cell 7).toI (x.cell 8).toI (x.cell 9).items.length = z
     by_cases c4 : z = 0
     ·have hb := ckL_many (its (x.cell 9).items) (nest + 1) (a + 1) (by omega)
      simp only [if_pos c4]
      rw [wn, kid x hx (a + 1) (by omega) (by omega) (by omega)]
      simp only [Option.isSome_some, _root_.cond_true, getD_some]
      generalize ckL (its (x.cell 9).items) (nest + 1) (a + 1) = p at hb ⊢
      by_cases c5 : p.1 = 0
      ·rw [if_pos c5, if_pos c5]
       have := hb c5
       exact ih _ ⟨by omega, by omega⟩
      ·rw [if_neg c5, if_neg c5, show (p.1 != 0) = true by simp [c5]]
       unfold oe
       rw [if_neg c5]
       rfl
     ·simp only [if_neg c4]
      unfold oe
      rw [if_neg c4]
    ·simp only [if_neg c3]
     rw [show ((x.cell 0).toI == 3) = false by simp [c3]]
     rfl
  unfold G34x1 F34x1
  rw [e]
  unfold oe
  by_cases c : (ckL (its l) nest many).1 = 0
  ·rw [if_pos c, if_pos c]
   rfl
  ·rw [if_neg c, if_neg c]
   rfl
end Go.Proofs.YtpnacmnpahjpoaaGreatDoor

namespace Go.Proofs.YtpnacmnpahjpoaaGreatDoor
open Go Go.AM
set_option maxRecDepth 100000
set_option maxHeartbeats 4000000
variable {N : Nat}
def wr (x : Int) : Int := IntKind.wrap .i64 x
theorem wr_def (x : Int) : wr x = (x + 9223372036854775808) % 18446744073709551616 - 9223372036854775808 := by
 unfold wr
 rw [IntKind.wrap_i64]
theorem wr_of {x : Int} (h1 : -9223372036854775808 ≤ x) (h2 : x ≤ 9223372036854775807) : wr x = x := wrapI h1 h2
theorem wr_eq (x : Int) : ∃ k : Int, wr x = x + 18446744073709551616 * k := ⟨-((x + 9223372036854775808) / 18446744073709551616), by rw [wr_def]; omega⟩
theorem wr_add (x k : Int) : wr (x + 18446744073709551616 * k) = wr x := by rw [wr_def, wr_def]; omega
theorem wr_sum (a b : Int) : wr (wr a + b) = wr (a + b) := by
 obtain ⟨k, h⟩ := wr_eq a
 rw [h, show a + 18446744073709551616 * k + b = a + b + 18446744073709551616 * k by omega, wr_add]
theorem wr_sum' (a b : Int) : wr (a + wr b) = wr (a + b) := by rw [Int.add_comm, wr_sum, Int.add_comm]
theorem wr_mul (t y : Int) : wr (t * wr y) = wr (t * y) := by
 obtain ⟨k, h⟩ := wr_eq y
 rw [h, show t * (y + 18446744073709551616 * k) = t * y + 18446744073709551616 * (t * k) by rw [Int.mul_add, Int.mul_left_comm], wr_add]
mutual
def bl : It → Int
 | .mk k _ _ _ _ _ _ _ tm its => if k = 3 then tm * blL its else 1
def blL : List It → Int
 | [] => 0
 | x :: r => bl x + blL r
end
theorem bl_eq (x : D) : bl (itOf x) = if (x.cell 0).toI = 3 then (x.cell 8).toI * blL (its (x.cell 9).items) else 1 := by
 rw [itOf_eq, bl]
theorem R32_eq (hN : maxLen < N) : ∀ (m d : Nat) (nl : Bool) (l : List D), okN d l → d ≤ m → R32x1 N m nl l = some (wr (blL (its l)))
 | _, 0, _, _, h, _ => h.elim
 | 0, _ + 1, _, _, _, h => by omega
 | m + 1, d + 1, nl, l, hok, hd => by
  show G32x1 N (R32x1 N m) nl l = _
  have kid : ∀ x ∈ l, R32x1 N m (x.cell 9).isNil (x.cell 9).items = some (wr (blL (its (x.cell 9).items))) := fun x hx =>
   R32_eq hN m d _ _ (hok.2 x hx).2 (by omega)
  generalize R32x1 N m = rc at kid ⊢
  have e : G32x1x9 N rc l (l.length : Int) 0 0 = some (wr (0 + blL (its l))) := by
   unfold G32x1x9
   refine for_acc (A := Int) (S := fun w a kr => S32x1x9 N rc l (l.length : Int) a w (fun a w => kr w a) (fun p => some p)) (L := fun m w a => L32x1x9 N rc l (l.length : Int) m a w (fun p => some p)) (fun m w a => rfl)
    (fun w a => wr a = a) (fun r a => some (wr (a + blL (its r)))) hok.1 ?_ ?_ hN 0 (wr_of (by omega) (by omega))
   ·intro a kr ha
    simp [S32x1x9, its, blL, ha]
   ·intro w a kr x r hx hw0 hw1 hw hi hk hr ha ih
    simp only [S32x1x9, decide_eq_true hw1, _root_.cond_true, hi, bnd_eq, hk, hw]
    have hg : G32x1x21020 N rc a ((x.cell 0).toI == 3) (x.cell 8).toI (x.cell 9).isNil (x.cell 9).items = some (wr (a + bl (itOf x))) := by
     unfold G32x1x21020 F32x1x21020
     rw [bl_eq, kid x hx, bif_if (p := (x.cell 0).toI = 3) (by simp)]
     by_cases c : (x.cell 0).toI = 3
     ·rw [if_pos c, if_pos c]
      show some (wr (a + wr ((x.cell 8).toI * wr (blL (its (x.cell 9).items))))) = _
      rw [wr_mul, wr_sum']
     ·rw [if_neg c, if_neg c]
      rfl
    rw [hg]
    simp only [Option.isSome_some, _root_.cond_true, getD_some]
    rw [ih _ (by have := wr_sum (a + bl (itOf x)) 0; simpa using this)]
    show some (wr (wr (a + bl (itOf x)) + blL (its r))) = some (wr (a + blL (itOf x :: its r)))
    rw [wr_sum, blL, Int.add_assoc]
  unfold G32x1 F32x1
  rw [e]
  simp [bnd_eq]
theorem R35_eq (hN : maxLen < N) : ∀ (m d : Nat) (nl : Bool) (l : List D), okN d l → d ≤ m → R35x1 N m nl l = some (wr (blL (its l)))
 | _, 0, _, _, h, _ => h.elim
 | 0, _ + 1, _, _, _, h => by omega
 | m + 1, d + 1, nl, l, hok, hd => by
  show G35x1 N (R35x1 N m) nl l = _
  have kid : ∀ x ∈ l, R35x1 N m (x.cell 9).isNil (x.cell 9).items = some (wr (blL (its (x.cell 9).items))) := fun x hx =>
   R35_eq hN m d _ _ (hok.2 x hx).2 (by omega)
  generalize R35x1 N m = rc at kid ⊢
  have e : G35x1x9 N rc l (l.length : Int) 0 0 = some (wr (0 + blL (its l))) := by
   unfold G35x1x9
   refine for_acc (A := Int) (S := fun w a kr => S35x1x9 N rc l (l.length : Int) a w (fun a w => kr w a) (fun p => some p)) (L := fun m w a => L35x1x9 N rc l (l.length : Int) m a w (fun p => some p)) (fun m w a => rfl)
    (fun w a => wr a = a) (fun r a => some (wr (a + blL (its r)))) hok.1 ?_ ?_ hN 0 (wr_of (by omega) (by omega))
   ·intro a kr ha
    simp [S35x1x9, its, blL, ha]
   ·intro w a kr x r hx hw0 hw1 hw hi hk hr ha ih
    simp only [S35x1x9, decide_eq_true hw1, _root_.cond_true, hi, bnd_eq, hk, hw]
    have hg : G35x1x21020 N rc a ((x.cell 0).toI == 3) (x.cell 8).toI (x.cell 9).isNil (x.cell 9).items = some (wr (a + bl (itOf x))) := by
     unfold G35x1x21020 F35x1x21020
     rw [bl_eq, kid x hx, bif_if (p := (x.cell 0).toI = 3) (by simp)]
     by_cases c : (x.cell 0).toI = 3
     ·rw [if_pos c, if_pos c]
      show some (wr (a + wr ((x.cell 8).toI * wr (blL (its (x.cell 9).items))))) = _
      rw [wr_mul, wr_sum']
     ·rw [if_neg c, if_neg c]
      rfl
    rw [hg]
    simp only [Option.isSome_some, _root_.cond_true, getD_some]
    rw [ih _ (by have := wr_sum (a + bl (itOf x)) 0; simpa using this)]
    show some (wr (wr (a + bl (itOf x)) + blL (its r))) = some (wr (a + blL (itOf x :: its r)))
    rw [wr_sum, blL, Int.add_assoc]
  unfold G35x1 F35x1
  rw [e]
  simp [bnd_eq]
def chkW (nm : List UInt8) (l : List It) : Int :=
 if nameB nm = false then 8 else if l.length = 0 then 13 else
 if (ckL l 0 0).1 = 0 then (if wr (blL l) > 1000 then 3 else 0) else (ckL l 0 0).1
theorem G10x0_eq (hN : maxLen < N) {d : Nat} {nm : List UInt8} {nl : Bool} {l : List D} (hnm : nm.length ≤ maxLen) (hok : okN d l) (hd : d ≤ N) : G10x0 N nm nl l = some (chkW nm (its l)) := by
 have hm : maxLen = 9223372036854775807 := rfl
 unfold G10x0 F10x0 chkW
 rw [G30x0_eq hN hnm, R31_eq hN N d nl l 0 0 hok (by omega) (by omega) (by omega) (by omega) (by omega), R32_eq hN N d nl l hok hd, its_length]
 simp only [bnd_eq, Option.isSome_some, _root_.cond_true, getD_some]
 rw [bif_if (p := nameB nm = false) (by simp), bif_if (p := l.length = 0) (by simp), bif_if (b := decide (wr (blL (its l)) > 1000)) decide_eq_true_iff]
 by_cases h1 : nameB nm = false
 ·rw [if_pos h1, if_pos h1]
 rw [if_neg h1, if_neg h1]
 by_cases h2 : l.length = 0
 ·rw [if_pos h2, if_pos h2]
 rw [if_neg h2, if_neg h2]
 by_cases h3 : (ckL (its l) 0 0).1 = 0
 ·rw [if_pos h3, show ((ckL (its l) 0 0).1 != 0) = false by simp [h3]]
  by_cases h4 : wr (blL (its l)) > 1000
  ·rw [if_pos h4]; simp only [if_pos h4]; rfl
  ·rw [if_neg h4]; simp only [if_neg h4]; rfl
 ·rw [if_neg h3, show ((ckL (its l) 0 0).1 != 0) = true by simp [h3]]
  rfl
theorem G11x0_eq (hN : maxLen < N) {d : Nat} {nm : List UInt8} {nl : Bool} {l : List D} (hnm : nm.length ≤ maxLen) (hok : okN d l) (hd : d ≤ N) : G11x0 N nm nl l = some (chkW nm (its l)) := by
 have hm : maxLen = 9223372036854775807 := rfl
 unfold G11x0 F11x0 chkW
 rw [G33x0_eq hN hnm, R34_eq hN N d nl l 0 0 hok (by omega) (by omega) (by omega) (by omega) (by omega), R35_eq hN N d nl l hok hd, its_length]
 simp only [bnd_eq, Option.isSome_some, _root_.cond_true, getD_some]
 rw [bif_if (p := nameB nm = false) (by simp), bif_if (p := l.length = 0) (by simp), bif_if (b := decide (wr (blL (its l)) > 1000)) decide_eq_true_iff]
 by_cases h1 : nameB nm = false
 ·rw [if_pos h1, if_pos h1]
 rw [if_neg h1, if_neg h1]
 by_cases h2 : l.length = 0
 ·rw [if_pos h2, if_pos h2]
 rw [if_neg h2, if_neg h2]
 by_cases h3 : (ckL (its l) 0 0).1 = 0
 ·simp only [if_pos h3]
  by_cases h4 : wr (blL (its l)) > 1000
  ·simp only [if_pos h4]; rfl
  ·simp only [if_neg h4]; rfl
 ·simp only [if_neg h3]
  rw [show ((ckL (its l) 0 0).1 != 0) = true by simp [h3]]
  rfl
noncomputable instance : DecidableEq It := fun _ _ => Classical.propDecidable _
noncomputable def okB (p : Prop) : Sum Unit Unit := @ite _ p (Classical.propDecidable p) (.inr ()) (.inl ())
theorem okB_yes {p : Prop} (h : p) : okB p = .inr () := by unfold okB; rw [if_pos h]
theorem okB_no {p : Prop} (h : ¬ p) : okB p = .inl () := by unfold okB; rw [if_neg h]
theorem okB_congr {p q : Prop} (h : p = q) : okB p = okB q := by rw [h]
theorem itOf_inj (x y : D) : itOf x = itOf y ↔ (x.cell 0).toI = (y.cell 0).toI ∧ (x.cell 1).toS = (y.cell 1).toS ∧ (x.cell 2).toI = (y.cell 2).toI ∧ (x.cell 3).toI = (y.cell 3).toI ∧ (x.cell 4).toI = (y.cell 4).toI ∧ (x.cell 5).toB = (y.cell 5).toB ∧ (x.cell 6).toI = (y.cell 6).toI ∧ (x.cell 7).toI = (y.cell 7).toI ∧ (x.cell 8).toI = (y.cell 8).toI ∧ its (x.cell 9).items = its (y.cell 9).items := by
 rw [itOf_eq x, itOf_eq y, It.mk.injEq]
theorem R36_eq (hN : maxLen < N) : ∀ (m d : Nat) (nl nl' : Bool) (l l' : List D), okN d l → okN d l' → d ≤ m → R36x1 N m nl l nl' l' = some (decide (its l = its l'))
 | _, 0, _, _, _, _, h, _, _ => h.elim
 | 0, _ + 1, _, _, _, _, _, _, h => by omega
 | m + 1, d + 1, nl, nl', l, l', hok, hok', hd => by
  show G36x1 N (R36x1 N m) nl l nl' l' = _
  have kid : ∀ x ∈ l, ∀ y ∈ l', R36x1 N m (x.cell 9).isNil (x.cell 9).items (y.cell 9).isNil (y.cell 9).items = some (decide (its (x.cell 9).items = its (y.cell 9).items)) := fun x hx y hy =>
   R36_eq hN m d _ _ _ _ (hok.2 x hx).2 (hok'.2 y hy).2 (by omega)
  generalize R36x1 N m = rc at kid ⊢
  unfold G36x1 F36x1 G61x0 F61x0
  by_cases hl : l.length = l'.length
  ·have e : G61x0x12 N rc l' l (l.length : Int) 0 = some (okB (its l = its l')) := by
    unfold G61x0x12
    refine (for_ind (.i 0 : D) (S := fun w kr => S61x0x12 N rc l' l (l.length : Int) w kr (fun p => some (Sum.inl p)) (fun p => some (Sum.inr p))) (L := fun m w => L61x0x12 N rc l' l (l.length : Int) m w (fun p => some (Sum.inl p)) (fun p => some (Sum.inr p))) (fun m w => rfl)
     (fun w r => some (okB (its r = its (l'.drop w.toNat)))) hok.1 ?_ ?_ hN).trans rfl
    ·intro kr
     simp [S61x0x12, its, hl, okB_yes]
    ·intro w kr hw0 hw1 hw hi hk
     have hw2 : w < l'.length := by omega
     rw [drop_at (.i 0) hw0 hw2]
     simp only [S61x0x12, decide_eq_true hw1, _root_.cond_true, hi, inB_of hw0 hw2, bnd_eq, hw]
     have hx := getD_memD hw0 hw1
     have hy := getD_memD hw0 hw2
     rw [hk]
     generalize l.getD w.toNat (.i 0) = x at hx ⊢
     generalize l'.getD w.toNat (.i 0) = y at hy ⊢
     have hg : G62x0 N rc (x.cell 0).toI (x.cell 1).toS (x.cell 2).toI (x.cell 3).toI (x.cell 4).toI (x.cell 5).toB (x.cell 6).toI (x.cell 7).toI (x.cell 8).toI (x.cell 9).isNil (x.cell 9).items (y.cell 0).toI (y.cell 1).toS (y.cell 2).toI (y.cell 3).toI (y.cell 4).toI (y.cell 5).toB (y.cell 6).toI (y.cell 7).toI (y.cell 8).toI (y.cell 9).isNil (y.cell 9).items = some (decide (itOf x = itOf y)) := by
      unfold G62x0 F62x0 G62x0x4 F62x0x4
      rw [kid x hx y hy]
      simp only [bnd_eq, Option.isSome_some, _root_.cond_true, getD_some]
      have e2 := itOf_inj x y
      by_cases q : its (x.cell 9).items = its (y.cell 9).items
      ·rw [decide_eq_true q]
       rw [cond_some]
       simp only [Option.isSome_some, _root_.cond_true, getD_some]
       congr 1
       rw [Bool.eq_iff_iff, decide_eq_true_iff, e2]
       simp [q, and_assoc]
      ·rw [decide_eq_false q, decide_eq_false (fun h => q (e2.1 h).2.2.2.2.2.2.2.2.2)]
       rw [cond_some]
       simp
     rw [hg]
     simp only [Option.isSome_some, _root_.cond_true, getD_some]
     show _ = some (okB (itOf x :: its _ = itOf y :: its _))
     by_cases q : itOf x = itOf y
     ·rw [decide_eq_true q, q]
      show some _ = some _
      rw [okB_congr (List.cons.injEq ..)]
      simp
     ·rw [decide_eq_false q, okB_no fun h => q (List.cons.inj h).1]
      rfl
   rw [show ((l.length : Int) != (l'.length : Int)) = false by simp [hl], e]
   by_cases q : its l = its l'
   ·rw [okB_yes q, decide_eq_true q]; rfl
   ·rw [okB_no q, decide_eq_false q]; rfl
  ·rw [show ((l.length : Int) != (l'.length : Int)) = true by simp; omega, decide_eq_false fun h => hl (by rw [← its_length l, ← its_length l', h])]
   rfl
theorem R37_eq (hN : maxLen < N) : ∀ (m d : Nat) (nl nl' : Bool) (l l' : List D), okN d l → okN d l' → d ≤ m → R37x1 N m nl l nl' l' = some (decide (its l = its l'))
 | _, 0, _, _, _, _, h, _, _ => h.elim
 | 0, _ + 1, _, _, _, _, _, _, h => by omega
 | m + 1, d + 1, nl, nl', l, l', hok, hok', hd => by
  show G37x1 N (R37x1 N m) nl l nl' l' = _
  have kid : ∀ x ∈ l, ∀ y ∈ l', R37x1 N m (x.cell 9).isNil (x.cell 9).items (y.cell 9).isNil (y.cell 9).items = some (decide (its (x.cell 9).items = its (y.cell 9).items)) := fun x hx y hy =>
   R37_eq hN m d _ _ _ _ (hok.2 x hx).2 (hok'.2 y hy).2 (by omega)
  generalize R37x1 N m = rc at kid ⊢
  unfold G37x1 F37x1
  by_cases hl : l.length = l'.length
  ·have e : G37x1x12 N rc l' l (l.length : Int) 0 = some (okB (its l = its l')) := by
    unfold G37x1x12
    refine (for_ind (.i 0 : D) (S := fun w kr => S37x1x12 N rc l' l (l.length : Int) w kr (fun p => some (Sum.inl p)) (fun p => some (Sum.inr p))) (L := fun m w => L37x1x12 N rc l' l (l.length : Int) m w (fun p => some (Sum.inl p)) (fun p => some (Sum.inr p))) (fun m w => rfl)
     (fun w r => some (okB (its r = its (l'.drop w.toNat)))) hok.1 ?_ ?_ hN).trans rfl
    ·intro kr
     simp [S37x1x12, its, hl, okB_yes]
    ·intro w kr hw0 hw1 hw hi hk
     have hw2 : w < l'.length := by omega
     rw [drop_at (.i 0) hw0 hw2]
     simp only [S37x1x12, decide_eq_true hw1, _root_.cond_true, hi, inB_of hw0 hw2, bnd_eq, hw]
     have hx := getD_memD hw0 hw1
     have hy := getD_memD hw0 hw2
     rw [hk]
     generalize l.getD w.toNat (.i 0) = x at hx ⊢
     generalize l'.getD w.toNat (.i 0) = y at hy ⊢
     have hg : G37x1x22 N rc (x.cell 0).toI (x.cell 1).toS (x.cell 2).toI (x.cell 3).toI (x.cell 4).toI (x.cell 5).toB (x.cell 6).toI (x.cell 7).toI (x.cell 8).toI (x.cell 9).isNil (x.cell 9).items (y.cell 0).toI (y.cell 1).toS (y.cell 2).toI (y.cell 3).toI (y.cell 4).toI (y.cell 5).toB (y.cell 6).toI (y.cell 7).toI (y.cell 8).toI (y.cell 9).isNil (y.cell 9).items = some (!decide (itOf x = itOf y)) := by
      unfold G37x1x22 F37x1x22
      rw [kid x hx y hy]
      simp only [bnd_eq, Option.isSome_some, _root_.cond_true, getD_some]
      have e2 := itOf_inj x y
      rw [cond_some]
      congr 1
      by_cases q : its (x.cell 9).items = its (y.cell 9).items
      ·rw [decide_eq_true q]
       rw [Bool.eq_iff_iff, Bool.not_eq_true', decide_eq_false_iff_not, e2]
       simp only [q, and_true]
       simp only [Bool.cond_true_left, Bool.or_eq_true, bne_iff_ne, Bool.not_eq_true', Bool.and_eq_false_iff, beq_eq_false_iff_ne, Bool.not_true, Bool.cond_false_right, Bool.and_true, ne_eq, reduceCtorEq, or_false]
       by_cases z0 : (x.cell 0).toI = (y.cell 0).toI <;> by_cases z1 : (x.cell 1).toS = (y.cell 1).toS <;> by_cases z2 : (x.cell 2).toI = (y.cell 2).toI <;> by_cases z3 : (x.cell 3).toI = (y.cell 3).toI <;> simp [z0, z1, z2, z3] <;>
       by_cases z4 : (x.cell 4).toI = (y.cell 4).toI <;> by_cases z5 : (x.cell 5).toB = (y.cell 5).toB <;> by_cases z6 : (x.cell 6).toI = (y.cell 6).toI <;> by_cases z7 : (x.cell 7).toI = (y.cell 7).toI <;> by_cases z8 : (x.cell 8).toI = (y.cell 8).toI <;> simp [z4, z5, z6, z7, z8]
      ·rw [decide_eq_false q, decide_eq_false (fun h => q (e2.1 h).2.2.2.2.2.2.2.2.2)]
       simp
     rw [hg]
     simp only [Option.isSome_some, _root_.cond_true, getD_some]
     show _ = some (okB (itOf x :: its _ = itOf y :: its _))
     by_cases q : itOf x = itOf y
     ·rw [decide_eq_true q, q]
      show some _ = some _
      rw [okB_congr (List.cons.injEq ..)]
      simp
     ·rw [decide_eq_false q, okB_no fun h => q (List.cons.inj h).1]
      rfl
   rw [show ((l.length : Int) != (l'.length : Int)) = false by simp [hl], e]
   by_cases q : its l = its l'
   ·rw [okB_yes q, decide_eq_true q]; rfl
   ·rw [okB_no q, decide_eq_false q]; rfl
  ·rw [show ((l.length : Int) != (l'.length : Int)) = true by simp; omega, decide_eq_false fun h => hl (by rw [← its_length l, ← its_length l', h])]
   rfl
theorem G12x0_eq (hN : maxLen < N) {d : Nat} {nm nm' : List UInt8} {nl nl' : Bool} {l l' : List D} (hok : okN d l) (hok' : okN d l') (hd : d ≤ N) : G12x0 N nm nl l nm' nl' l' = some (decide (nm = nm' ∧ its l = its l')) := by
 unfold G12x0 F12x0 G12x0x4 F12x0x4
 rw [R36_eq hN N d nl nl' l l' hok hok' hd]
 by_cases h : nm = nm'
 ·rw [show (nm == nm') = true by simp [h]]
  simp [bnd_eq, h]
 ·rw [show (nm == nm') = false by simp [h]]
  simp [bnd_eq, h]
theorem G13x0_eq (hN : maxLen < N) {d : Nat} {nm nm' : List UInt8} {nl nl' : Bool} {l l' : List D} (hok : okN d l) (hok' : okN d l') (hd : d ≤ N) : G13x0 N nm nl l nm' nl' l' = some (decide (nm = nm' ∧ its l = its l')) := by
 unfold G13x0 F13x0 G13x0x4 F13x0x4
 rw [R37_eq hN N d nl nl' l l' hok hok' hd]
 by_cases h : nm = nm'
 ·rw [show (nm == nm') = true by simp [h]]
  simp [bnd_eq, h]
 ·rw [show (nm == nm') = false by simp [h]]
  simp [bnd_eq, h]
theorem law3 (hN : maxLen < N) {d : Nat} (hd : d ≤ N) {v0 v3 : List UInt8} {v1 v4 : Bool} {v2 v5 : List D} (h0 : v0.length ≤ maxLen) (h2 : okN d v2) (_h3 : v3.length ≤ maxLen) (h5 : okN d v5) : G3x0 N v0 v1 v2 v3 v4 v5 = some true := by
 unfold G3x0 F3x0 G3x0x4 F3x0x4
 rw [G10x0_eq hN h0 h2 hd, G11x0_eq hN h0 h2 hd, G12x0_eq hN h2 h5 hd, G13x0_eq hN h2 h5 hd, G12x0_eq hN h2 h2 hd]
 simp [bnd_eq]
end Go.Proofs.YtpnacmnpahjpoaaGreatDoor

namespace Go.Proofs.YtpnacmnpahjpoaaGreatDoor
open Go Go.AM
set_option maxRecDepth 100000
set_option maxHeartbeats 4000000
theorem kinds24 : kinds Tryz.prog 24 = [.str, .sl 64] := by kernel_rfl
theorem kinds64 : kinds Tryz.prog 64 = [.int .i64, .str, .int .i64, .int .i64, .int .i64, .bool, .int .i64, .int .i64, .int .i64, .sl 64] := by kernel_rfl
theorem agg64 : isAggB Tryz.prog 64 = true := by kernel_rfl
theorem str1 {m : Nat} {d : D} (h : TyK Tryz.prog m .str d) : ∃ s, d = .s s ∧ s.length ≤ maxLen := by
 cases m with
 | zero => exact h.elim
 | succ m => exact h
theorem itemsOk : ∀ (m : Nat) (nl : Bool) (xs : List D), TyK Tryz.prog m (.sl 64) (.l nl xs) → okN m xs
 | 0, _, _, h => h.elim
 | m + 1, nl, xs, h => by
  obtain ⟨nl', xs', h1, _, h2, h3⟩ := h
  cases h1
  refine ⟨h2, fun x hx => ?_⟩
  have h := h3 x hx
  unfold TyEl at h
  rw [if_pos agg64, kinds64] at h
  obtain ⟨cs, rfl, h⟩ := h
  obtain ⟨c0, _, rfl, g0, h⟩ := all2_cons h
  obtain ⟨c1, _, rfl, g1, h⟩ := all2_cons h
  obtain ⟨c2, _, rfl, g2, h⟩ := all2_cons h
  obtain ⟨c3, _, rfl, g3, h⟩ := all2_cons h
  obtain ⟨c4, _, rfl, g4, h⟩ := all2_cons h
  obtain ⟨c5, _, rfl, g5, h⟩ := all2_cons h
  obtain ⟨c6, _, rfl, g6, h⟩ := all2_cons h
  obtain ⟨c7, _, rfl, g7, h⟩ := all2_cons h
  obtain ⟨c8, _, rfl, g8, h⟩ := all2_cons h
  obtain ⟨c9, _, rfl, g9, h⟩ := all2_cons h
  obtain rfl := all2_nil h
  obtain ⟨s1, rfl, q1⟩ := str1 g1
  obtain ⟨nl9, xs9, rfl⟩ : ∃ nl xs, c9 = .l nl xs := by
   cases m with
   | zero => exact g9.elim
   | succ m => obtain ⟨nl, xs, h1, _⟩ := g9; exact ⟨nl, xs, h1⟩
  exact ⟨q1, itemsOk m nl9 xs9 g9⟩
theorem argW {m : Nat} {ds : List D} (h : ArgOk Tryz.prog m 24 ds) : ∃ s nl xs, ds = [.s s, .l nl xs] ∧ s.length ≤ maxLen ∧ okN m xs := by
 unfold ArgOk at h
 rw [kinds24] at h
 obtain ⟨_, _, rfl, h0, h⟩ := all2_cons h
 obtain ⟨_, _, rfl, h1, h⟩ := all2_cons h
 obtain rfl := all2_nil h
 obtain ⟨s, rfl, hs⟩ := str1 h0
 obtain ⟨nl, xs, rfl⟩ : ∃ nl xs, _ = D.l nl xs := by
  cases m with
  | zero => exact h1.elim
  | succ m => obtain ⟨nl, xs, h1, _⟩ := h1; exact ⟨nl, xs, h1⟩
 exact ⟨s, nl, xs, rfl, hs, itemsOk m nl xs h1⟩
theorem callLaw (m : Nat) (dss : List (List D)) (h : All2 (ArgOk Tryz.prog m) Tryz.f3.params.toList dss) : CallOk Tryz.prog 3 (argVs Tryz.prog Tryz.f3.params.toList dss) [] ([.c (.b true)], []) := by
 have hp : Tryz.f3.params.toList = [24, 24] := by kernel_rfl
 rw [hp] at h ⊢
 match dss, h with
 | [d0, d1], ⟨h0, h1, _⟩ =>
  obtain ⟨n0, b0, x0, rfl, s0, o0⟩ := argW h0
  obtain ⟨n1, b1, x1, rfl, s1, o1⟩ := argW h1
  obtain ⟨N, hN, hd⟩ : ∃ N, maxLen < N ∧ m ≤ N := ⟨maxLen + 1 + m, by omega, by omega⟩
  refine ok3x0 N _ _ (A3x0 N [.s n0, .b b0, .l x0, .s n1, .b b1, .l x1]) (by kernel_rfl) _ ?_
  have e : A3x0 N [.s n0, .b b0, .l x0, .s n1, .b b1, .l x1] = bnd (G3x0 N n0 b0 x0 n1 b1 x1) fun q => [(q.isSome, ([.c (.b (q.getD default))], []))] := by kernel_rfl
  rw [e, law3 hN hd s0 o0 s1 o1]
  rfl
theorem Tryz.own : ownKnob Tryz.prog.godebug = none := by kernel_rfl
theorem Tryz.laidOut : laidOutB Tryz.prog = true := by kernel_rfl
theorem bulkOk {H : Type} : BulkOk (Rows.uptoBulk : DataW H → Nat) Rows.uptoBulkAll := by
 refine ⟨fun l => ?_, fun l => ?_, ?_, fun e s => ?_, fun p => ?_, ?_, fun d r => ?_⟩
 ·cases l <;> simp [Rows.uptoBulk]
 ·simp [Rows.uptoBulk]
 ·simp [Rows.uptoBulk]
 ·simp only [Rows.uptoBulk]; omega
 ·simp [Rows.uptoBulk]
 ·simp [Rows.uptoBulkAll]
 ·simp [Rows.uptoBulkAll]
theorem g0 : Tryz.prog.globalNamed "internal/bytealg.MaxLen" = some 2 := by kernel_rfl
theorem g1 : Tryz.prog.globalNamed "internal/strconv.uint64pow10" = some 7 := by kernel_rfl
theorem g2 : Tryz.prog.globalNamed "strconv.ErrSyntax" = some 5 := by kernel_rfl
theorem g3 : Tryz.prog.globalNamed "strconv.ErrRange" = some 6 := by kernel_rfl
theorem giW {W : World} (hs : W.ShapedOpen Tryz.prog) (hl : laidMetH Tryz.prog Rows.workoutChecksMatchSpecRow.laid W) {M : Stab} (hM : ∀ b o, ¬ M b o) : GI Tryz.prog M W := by
 have hl : laidMet Tryz.prog Rows.workoutChecksMatchSpecRow.laid W := hl
 refine gi_of g0 g1 g2 g3 ?_ ?_ ?_ ?_ hM
 ·exact gat_int (t := 3) (zero := #[.int .i64 0]) hs (of_decide_eq_true (by kernel_rfl)) (by kernel_rfl) rfl (by kernel_rfl) (by kernel_rfl) (by kernel_rfl)
 ·obtain ⟨ps, hv, _⟩ := hl
  obtain ⟨g, t, cs, fuel, p, q1, q2, q3, q4⟩ := laid_get (x := ("internal/strconv.uint64pow10", Rows.laid_internal_strconv_uint64pow10)) hv (by simp [Rows.workoutChecksMatchSpecRow])
  obtain rfl := Option.some.inj ((show (Tryz.prog.globals[7]?).map (·.type) = some 194 by kernel_rfl).symm.trans (by rw [Option.some.inj (g1.symm.trans q1)]; exact q2))
  have hcs := Lib.cells_of_tab (k := .u64) (zs := (List.range 20).map fun i => ((10 ^ i : Nat) : Int)) (n := 20) (e := 95) (t := 194) (by kernel_rfl) (by kernel_rfl) (by kernel_rfl) (by kernel_rfl) (show DataW.trod _ _ _ _ _ _ fuel 194 cs.toList = some (Lib.tabData .u64 ((List.range 20).map fun i => ((10 ^ i : Nat) : Int)), p) from q4)
  refine gat_tab (k := .u64) (zs := (List.range 20).map fun i => ((10 ^ i : Nat) : Int)) g1 (show W.var? Tryz.prog _ = _ by rw [q3, ← hcs]) (by simp) fun i p z h1 h2 => ?_
  rw [List.getElem?_map] at h1 h2
  obtain ⟨j, j1, rfl⟩ := Option.map_eq_some_iff.1 h1
  rw [j1] at h2
  simp only [Option.map_some, Option.some.injEq] at h2
  subst h2
  rfl
 ·exact gat_err (t := 112) hl (show ("strconv.ErrSyntax", Rows.laid_strconv_ErrSyntax) ∈ Rows.workoutChecksMatchSpecRow.laid by simp [Rows.workoutChecksMatchSpecRow]) g2 (by kernel_rfl) (by kernel_rfl)
 ·exact gat_err (t := 112) hl (show ("strconv.ErrRange", Rows.laid_strconv_ErrRange) ∈ Rows.workoutChecksMatchSpecRow.laid by simp [Rows.workoutChecksMatchSpecRow]) g3 (by kernel_rfl) (by kernel_rfl)
abbrev synS : ByteArray := { data := #[105, 110, 118, 97, 108, 105, 100, 32, 115, 121, 110, 116, 97, 120] }
abbrev rngS : ByteArray := { data := #[118, 97, 108, 117, 101, 32, 111, 117, 116, 32, 111, 102, 32, 114, 97, 110, 103, 101] }
noncomputable def low : Nat := (World.holding Tryz.prog default ⟨#[], #[], []⟩).heap.size
def tabOf {H : Type} : DataW H → Array Value
 | .agg l => (l.map fun | .lit (.int k n) => Value.int k n | _ => undef).toArray
 | _ => #[]
def setG (h : Array Obj) (g : Nat) (vs : Array Value) : Array Obj := h.modify g fun
 | .cells _ t fr => .cells vs t fr
 | o => o
def flatOf {H : Type} : DataW H → Array Value
 | .agg l => (l.flatMap fun | .agg r => r.map (fun | .lit (.int k n) => Value.int k n | _ => undef) | _ => []).toArray
 | _ => #[]
noncomputable def laidWorld (os : Os) : World :=
 let w0 := World.holding Tryz.prog os ⟨#[.cells #[.string synS] 192, .cells #[.string rngS] 192], #[], []⟩
 { w0 with heap := setG (setG (setG (setG (setG (setG (setG w0.heap 7 (tabOf (H := Unit) Rows.laid_internal_strconv_uint64pow10)) 5 #[.iface 190 (.pointer (some ⟨low, 0, none⟩))]) 6 #[.iface 190 (.pointer (some ⟨low + 1, 0, none⟩))])
   8 (tabOf (H := Unit) Rows.laid_math_bits_deBruijn32tab)) 9 (tabOf (H := Unit) Rows.laid_math_bits_deBruijn64tab)) 3 (tabOf Rows.laid_unicode_utf8_first)) 4 (flatOf (H := Unit) Rows.laid_unicode_utf8_acceptRanges) }
def arg0 : Value := .agg #[.string ⟨#[]⟩, .slice none 0 0]
def dat0 {H : Type} : DataW H := .agg [.lit (.string []), .nil]
def arg1 : Value := .agg #[.string ⟨#[]⟩, .slice none 0 0]
def dat1 {H : Type} : DataW H := .agg [.lit (.string []), .nil]
theorem laid_met (os : Os) : laidMet Tryz.prog Rows.workoutChecksMatchSpecRow.laid ((laidWorld os).forCall (fun _ _ => 0) ⟨#[], #[arg0, arg1], []⟩).memory :=
 laidMet_of_run' 8 (by kernel_rfl) (by kernel_rfl)
theorem reads (os : Os) {H : Type} (enc : TypeId × Value → H) : ∃ places, DataW.whole enc Tryz.prog ((laidWorld os).forCall (fun _ _ => 0) ⟨#[], #[arg0, arg1], []⟩).memory Tryz.f3.params.toList Rows.workoutChecksMatchSpecSpec.vars false #[arg0, arg1].toList 8 = some ([dat0, dat1], [], places) :=
 ⟨[], by kernel_rfl⟩
theorem lifted (os : Os) (started : os.Started) (H : Type) (enc : TypeId × Value → H) (F : Stop.Interp) :
  ReturnsInHanded {} Tryz.checked os 3 .any ((OpenSpec.ofChange Rows.workoutChecksMatchSpecSpec).preRow enc Tryz.prog Tryz.f3 Rows.workoutChecksMatchSpecRow.domain false Rows.workoutChecksMatchSpecRow.laid) (((OpenSpec.ofChange Rows.workoutChecksMatchSpecSpec).at F).post enc Tryz.prog Tryz.f3 false true false false) := by
 obtain ⟨places, hx⟩ := reads os enc
 refine returnsInHanded_of_row (C := Tryz.checked) (s := OpenSpec.ofChange Rows.workoutChecksMatchSpecSpec) Tryz.own started (by kernel_rfl) Tryz.func3
  (witness_row_at (enc := enc) (C := Tryz.checked) false (laidWorld os) #[arg0, arg1] rfl (by kernel_rfl) (by kernel_rfl) (by kernel_rfl)
   (OpenSpec.preRow_of_cond 8 hx (by kernel_rfl) (fun k hk => by cases hk) (by kernel_rfl) (laid_met os))) ?_
 intro W base args ds gs before hval hW _ _ _ hL hsh _
 exact law_callR (tb := 4) bulkOk [64] (by kernel_rfl) Tryz.laidOut rfl (by kernel_rfl) (by kernel_rfl) (by kernel_rfl) (fun l hl => by
  rw [show Tryz.f3.params.size = 2 by kernel_rfl] at hl
  match l, hl with
  | [_, _], _ => rfl) (fun m dss h _ => callLaw m dss h) (fun hM => giW hsh hL hM) hval hW
end Go.Proofs.YtpnacmnpahjpoaaGreatDoor

