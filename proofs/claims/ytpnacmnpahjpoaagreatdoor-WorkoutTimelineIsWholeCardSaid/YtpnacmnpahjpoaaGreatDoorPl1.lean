/- A part of a proof of a law: lemmas. Conditions: those of each lemma. -/
import Derived.Test.YtpnacmnpahjpoaaGreatDoorWKp2
import Derived.KernelRfl
import Derived.Test.YtpnacmnpahjpoaaGreatDoorCards
import Derived.Test.YtpnacmnpahjpoaaGreatDoorTie
import Derived.Deep.DeepHandedRow
import Derived.ProofKit
set_option linter.all false
set_option maxRecDepth 100000
namespace Go.Proofs.YtpnacmnpahjpoaaGreatDoor
open Go Go.AM
set_option maxRecDepth 100000
set_option maxHeartbeats 4000000
variable {N : Nat}
def ltr (n : Int) : Bool := decide (97 ≤ n ∧ n ≤ 122 ∨ 65 ≤ n ∧ n ≤ 90 ∨ 48 ≤ n ∧ n ≤ 57 ∨ n = 45 ∨ n = 95 ∨ n = 46)
def nameB (s : List UInt8) : Bool := s.all (fun c => ltr (c.toNat : Int)) && decide (1 ≤ s.length ∧ s.length ≤ 60)
def inI (n a b : Int) : Bool := decide (a ≤ n ∧ n ≤ b)
theorem V48x0_eq (n a b : Int) : V48x0 N n a b = inI n a b := by
 unfold V48x0 F48x0 inI
 rw [Bool.eq_iff_iff]; simp
theorem G30x0_eq (hN : maxLen < N) {s : List UInt8} (hs : s.length ≤ maxLen) : G30x0 N s = some (nameB s) := by
 have h : G30x0x6 N s s.length 0 = some (bif s.all (fun c => ltr (c.toNat : Int)) then .inr () else .inl ()) := by
  unfold G30x0x6
  refine (for_ind (0 : UInt8) (S := fun w kr => S30x0x6 N s s.length w kr _ _) (L := fun m w => L30x0x6 N s s.length m w _ _) (fun m w => rfl) (fun _ l => some (bif l.all (fun c => ltr (c.toNat : Int)) then .inr () else .inl ())) hs ?_ ?_ hN).trans rfl
  ·intro kr; simp [S30x0x6]
  ·intro w kr h0 h1 hw hi hk
   simp only [S30x0x6, decide_eq_true h1, _root_.cond_true, hi, bnd_eq, hw, hk, List.all_cons, V30x0x19, F30x0x19, V56x0, F56x0]
   generalize ((s.getD w.toNat 0).toNat : Int) = n
   refine (cond_congr (c' := !ltr n) ?_).trans ?_
   ·rw [Bool.eq_iff_iff]; simp [ltr]; omega
   ·cases ltr n <;> rfl
 unfold G30x0 F30x0
 rw [h]
 unfold nameB
 cases s.all (fun c => ltr (c.toNat : Int)) with
 | false => rfl
 | true =>
  simp only [bnd_eq, inlB_inr, inrQ_inr, _root_.cond_true, _root_.cond_false, Option.isSome_some, Bool.true_and]
  congr 1
  rw [Bool.eq_iff_iff]; simp; omega
def mostOf (ms : Int) (pct : Bool) : Int := if pct then 300 else if ms = 1 then 3000 else if ms = 2 then 300 else if ms = 3 then 300 else 36000
def noAim (ms : Int) (pct : Bool) (lo hi : Int) : Bool := (ms == 0) && ((pct == false) && ((lo == 0) && ((hi == 0) && true)))
def aimE (k ms : Int) (pct : Bool) (lo hi : Int) : Int :=
 if inI ms 0 4 = false then 7 else
 if ms = 0 then (if noAim ms pct lo hi = false ∨ k = 2 then 2 else 0) else
 if pct = true ∧ ms = 3 then 2 else
 if inI lo 1 (mostOf ms pct) = false ∨ inI hi 1 (mostOf ms pct) = false then 9 else
 if lo > hi ∧ k ≠ 2 then 10 else 0
def formF (sec way tm : Int) (n : Nat) : Bool := decide (tm ≠ 0 ∨ 0 < n ∨ ((sec = 0) ↔ (way = 0)))
def longF (sec way : Int) : Bool := !inI sec 0 3599999 || !inI way 0 1000000000
def stepE (k : Int) (nm : List UInt8) (sec way ms : Int) (pct : Bool) (lo hi tm : Int) (n : Nat) : Int :=
 bif !nameB nm then 8 else bif formF sec way tm n then 2 else bif longF sec way then 9 else aimE k ms pct lo hi
def repE (nm : List UInt8) (sec way ms : Int) (pct : Bool) (lo hi tm : Int) (n : Nat) : Int :=
 if nm ≠ [] ∨ sec ≠ 0 ∨ way ≠ 0 ∨ noAim ms pct lo hi = false then 2 else
 if inI tm 1 99 = false then 9 else if n = 0 then 13 else 0
theorem bif_if {A : Type} {b : Bool} {p : Prop} [Decidable p] {x y : A} (h : b = true ↔ p) : (bif b then x else y) = if p then x else y := by
 cases b with
 | true => rw [if_pos (h.1 rfl)]; rfl
 | false => rw [if_neg fun q => by cases h.2 q]; rfl
theorem formB (tm sec way : Int) (n : Nat) : (bif (bif (tm != 0) then true else (decide ((n : Int) > 0))) then true else ((sec == 0) == (way == 0))) = formF sec way tm n := by
 unfold formF
 have e1 : (tm != 0) = decide (tm ≠ 0) := by by_cases h : tm = 0 <;> simp [h]
 have e2 : ∀ z : Int, (z == 0) = decide (z = 0) := fun z => by by_cases h : z = 0 <;> simp [h]
 rw [e1, e2, e2, Bool.eq_iff_iff]
 simp only [Bool.cond_true_left, Bool.or_eq_true, decide_eq_true_eq, gt_iff_lt, beq_iff_eq, decide_eq_decide, or_assoc]
 omega
theorem cond_some {A : Type} {b : Bool} {x y : A} : (bif b then some x else some y) = some (bif b then x else y) := by cases b <;> rfl
theorem two (P Q : Prop) [Decidable P] [Decidable Q] : (bif decide P then some 9 else bif decide Q then some 10 else some (0 : Int)) = some (if P then 9 else if Q then 10 else 0) := by
 by_cases h1 : P <;> by_cases h2 : Q <;> simp [h1, h2]
theorem G57x0_eq (hN : maxLen < N) {k : Int} {nm : List UInt8} {sec way ms : Int} {pct : Bool} {lo hi tm : Int} {l : List D} (hs : nm.length ≤ maxLen) (hk : k = 1 ∨ k = 2) : G57x0 N k nm sec way ms pct lo hi tm l = some (stepE k nm sec way ms pct lo hi tm l.length) := by
 have e : V57x0x19 N sec way = longF sec way := by
  unfold V57x0x19 F57x0x19 longF
  simp only [bnd_eq, V48x0_eq]
  cases inI sec 0 3599999 <;> rfl
 have e0 : V57x0x12002 N (bif (tm != 0) then true else (decide ((l.length : Int) > 0))) sec way = formF sec way tm l.length := by
  rw [← formB]
  unfold V57x0x12002 F57x0x12002
  rfl
 unfold G57x0 F57x0 stepE
 rw [G30x0_eq hN hs]
 simp only [bnd_eq, Option.isSome_some, _root_.cond_true, getD_some, V48x0_eq, e, e0]
 rw [← cond_some]
 congr 1
 rw [← cond_some]
 congr 1
 rw [← cond_some]
 congr 1
 have eb : ∀ q, V57x0x58 N q lo hi = decide (inI lo 1 q = false ∨ inI hi 1 q = false) := fun q => by
  unfold V57x0x58 F57x0x58
  simp only [bnd_eq, V48x0_eq]
  cases inI lo 1 q <;> cases inI hi 1 q <;> rfl
 have ek : (bif decide (lo > hi) then k == 1 else false) = decide (lo > hi ∧ k ≠ 2) := by
  rw [Bool.eq_iff_iff]
  rcases hk with rfl | rfl <;> by_cases h5 : lo > hi <;> simp [h5]
 simp only [V57x0x36002, F57x0x36002, V57x0x56, F57x0x56, eb, ek]
 unfold aimE
 cases h3 : inI ms 0 4 with
 | false => rfl
 | true =>
 rw [if_neg (by simp)]
 have em : ms = 0 ∨ ms = 1 ∨ ms = 2 ∨ ms = 3 ∨ ms = 4 := by
  simp only [inI, decide_eq_true_eq] at h3
  omega
 rcases em with rfl | rfl | rfl | rfl | rfl
 ·have key : ∀ b : Bool, (bif (bif (bif !b then true else k == 2) then true else bif pct then false else false) then some 2 else some (0 : Int)) = some (if b = false ∨ k = 2 then 2 else 0) := by
   intro b
   cases b <;> cases pct <;> rcases hk with rfl | rfl <;> rfl
  exact key (noAim 0 pct lo hi)
 all_goals
  cases pct
  all_goals
   first | rfl | exact two _ _
theorem V58x0_eq {nm : List UInt8} {sec way ms : Int} {pct : Bool} {lo hi tm : Int} {l : List D} : V58x0 N nm sec way ms pct lo hi tm l = repE nm sec way ms pct lo hi tm l.length := by
 unfold V58x0 F58x0 repE
 simp only [bnd_eq, V48x0_eq]
 rw [bif_if (p := nm ≠ [] ∨ sec ≠ 0 ∨ way ≠ 0 ∨ noAim ms pct lo hi = false) (by
  unfold noAim
  cases (ms == 0) && ((pct == false) && ((lo == 0) && ((hi == 0) && true))) <;> by_cases h1 : nm = [] <;> by_cases h2 : sec = 0 <;> by_cases h3 : way = 0 <;> simp [h1, h2, h3]), bif_if (p := inI tm 1 99 = false) (by simp), bif_if (p := l.length = 0) (by simp)]
end Go.Proofs.YtpnacmnpahjpoaaGreatDoor

namespace Go.Proofs.YtpnacmnpahjpoaaGreatDoor
open Go Go.AM
set_option maxRecDepth 100000
set_option maxHeartbeats 4000000
variable {N : Nat}
theorem szD_pos (x : D) : 1 ≤ szD x := by
 cases x <;> simp [szD]
theorem szDs_mem : ∀ {l : List D} {x : D}, x ∈ l → szD x ≤ szDs l
 | y :: l, x, h => by
  simp only [szDs]
  rcases List.mem_cons.1 h with rfl | h
  ·omega
  ·have := szDs_mem h; omega
theorem szD_cell (x : D) (j : Nat) : x.cell j = .i 0 ∨ szD (x.cell j) < szD x := by
 cases x with
 | a cs =>
  simp only [D.cell, szD]
  by_cases hj : j < cs.length
  ·right
   have : cs.getD j (.i 0) ∈ cs := by rw [List.getD_eq_getElem?_getD, List.getElem?_eq_getElem hj]; exact List.getElem_mem hj
   have := szDs_mem this
   omega
  ·left; rw [List.getD_eq_getElem?_getD, List.getElem?_eq_none (by omega)]; rfl
 | _ => left; rfl
theorem kids_lt (x : D) (j : Nat) : szDs (x.cell j).items < szD x := by
 have h1 := szD_pos x
 rcases szD_cell x j with h | h
 ·rw [h]; exact h1
 ·cases hc : x.cell j with
  | l nl xs => rw [hc] at h; simp only [szD] at h; simp only [D.items]; omega
  | _ => exact h1
theorem getD_memD {l : List D} {w : Int} (h0 : 0 ≤ w) (h1 : w < l.length) : l.getD w.toNat (.i 0) ∈ l := by
 have hl : w.toNat < l.length := by omega
 rw [List.getD_eq_getElem?_getD, List.getElem?_eq_getElem hl]; exact List.getElem_mem hl
theorem for_acc {A X : Type} {xs : List D} {S : Int → A → (Int → A → X) → X} {L : Nat → Int → A → X} (hL : ∀ m w a, L (m + 1) w a = S w a (L m)) (Inv : Int → A → Prop) (spec : List D → A → X) (hlen : xs.length ≤ maxLen)
  (hend : ∀ a kr, Inv xs.length a → S xs.length a kr = spec [] a)
  (hstep : ∀ (w : Int) (a : A) (kr : Int → A → X) (x : D) (r : List D), x ∈ xs → 0 ≤ w → w < xs.length → IntKind.wrap .i64 (w + 1) = w + 1 → inB w xs.length = true → xs.getD w.toNat (.i 0) = x → xs.drop (w + 1).toNat = r → Inv w a → (∀ a', Inv (w + 1) a' → kr (w + 1) a' = spec r a') → S w a kr = spec (x :: r) a)
  {N : Nat} (hN : maxLen < N) (a : A) (h0 : Inv 0 a) : L N 0 a = spec xs a := by
 have hm : maxLen = 9223372036854775807 := rfl
 have key : ∀ (n m : Nat) (w : Int) (a : A), 0 ≤ w → w ≤ xs.length → xs.length - w.toNat = n → n < m → Inv w a → L m w a = spec (xs.drop w.toNat) a := by
  intro n
  induction n with
  | zero =>
   intro m w a hw0 hw1 hn hm' hi
   obtain ⟨m, rfl⟩ : ∃ m', m = m' + 1 := ⟨m - 1, by omega⟩
   have hw : w = xs.length := by omega
   subst hw
   rw [hL, hend a _ hi, List.drop_eq_nil_of_le (by omega)]
  | succ n ih =>
   intro m w a hw0 hw1 hn hm' hi
   obtain ⟨m, rfl⟩ : ∃ m', m = m' + 1 := ⟨m - 1, by omega⟩
   have hw : w < xs.length := by omega
   rw [hL, drop_at (.i 0) hw0 hw]
   exact hstep w a _ _ _ (getD_memD hw0 hw) hw0 hw (wrapI (by omega) (by omega)) (inB_of hw0 hw) rfl rfl hi fun a' hi' => ih m (w + 1) a' (by omega) (by omega) (by omega) (by omega) hi'
 have := key xs.length N 0 a (by omega) (by omega) rfl (by omega) h0
 simpa using this
inductive It where
 | mk (k : Int) (nm : List UInt8) (sec way ms : Int) (pct : Bool) (lo hi tm : Int) (its : List It)
def itOf (d : D) : It := .mk (d.cell 0).toI (d.cell 1).toS (d.cell 2).toI (d.cell 3).toI (d.cell 4).toI (d.cell 5).toB (d.cell 6).toI (d.cell 7).toI (d.cell 8).toI ((d.cell 9).items.attach.map fun x => itOf x.1)
termination_by szD d
decreasing_by
 have h1 := szDs_mem x.2
 have h2 := kids_lt d 9
 omega
def its (l : List D) : List It := l.map itOf
theorem itOf_eq (d : D) : itOf d = .mk (d.cell 0).toI (d.cell 1).toS (d.cell 2).toI (d.cell 3).toI (d.cell 4).toI (d.cell 5).toB (d.cell 6).toI (d.cell 7).toI (d.cell 8).toI (its (d.cell 9).items) := by
 rw [itOf]
 congr 1
 unfold its
 rw [List.map_attach_eq_pmap, List.pmap_eq_map]
theorem its_length (l : List D) : (its l).length = l.length := List.length_map ..
def okN : Nat → List D → Prop
 | 0, _ => False
 | m + 1, l => l.length ≤ maxLen ∧ ∀ x ∈ l, (x.cell 1).toS.length ≤ maxLen ∧ okN m (x.cell 9).items
theorem okN_sub {m : Nat} {l l' : List D} (h : okN m l) (hl : l'.length ≤ maxLen) (hs : ∀ x ∈ l', x ∈ l) : okN m l' := by
 cases m with
 | zero => exact h.elim
 | succ m => exact ⟨hl, fun x hx => h.2 x (hs x hx)⟩
def stE : It → Int
 | .mk k nm sec way ms pct lo hi tm its => stepE k nm sec way ms pct lo hi tm its.length
def It.kind : It → Int
 | .mk k .. => k
def It.tm : It → Int
 | .mk _ _ _ _ _ _ _ _ tm _ => tm
def It.kids : It → List It
 | .mk _ _ _ _ _ _ _ _ _ its => its
mutual
def ck : It → Int → Int → Int × Int
 | .mk k nm sec way ms pct lo hi tm its, nest, many =>
  if many + 1 > 200 ∨ nest > 3 then (3, many + 1) else
  if k = 1 ∨ k = 2 then (stepE k nm sec way ms pct lo hi tm its.length, many + 1) else
  if k = 3 then (if repE nm sec way ms pct lo hi tm its.length = 0 then ckL its (nest + 1) (many + 1) else (repE nm sec way ms pct lo hi tm its.length, many + 1)) else
  (7, many + 1)
def ckL : List It → Int → Int → Int × Int
 | [], _, many => (0, many)
 | x :: r, nest, many => if (ck x nest many).1 = 0 then ckL r nest (ck x nest many).2 else ck x nest many
end
mutual
theorem ck_many : ∀ (x : It) (nest many : Int), (ck x nest many).1 = 0 → many < (ck x nest many).2 ∧ (ck x nest many).2 ≤ 200
 | .mk k nm sec way ms pct lo hi tm its, nest, many => by
  intro h
  simp only [ck] at h ⊢
  by_cases h1 : many + 1 > 200 ∨ nest > 3
  ·rw [if_pos h1] at h; cases h
  rw [if_neg h1] at h ⊢
  by_cases h2 : k = 1 ∨ k = 2
  ·rw [if_pos h2]; simp only; omega
  rw [if_neg h2] at h ⊢
  by_cases h3 : k = 3
  ·rw [if_pos h3] at h ⊢
   by_cases h4 : repE nm sec way ms pct lo hi tm its.length = 0
   ·rw [if_pos h4] at h ⊢
    have := ckL_many its (nest + 1) (many + 1) (by omega) h
    omega
   ·rw [if_neg h4] at h; exact absurd h h4
  ·rw [if_neg h3] at h; cases h
theorem ckL_many : ∀ (l : List It) (nest many : Int), many ≤ 200 → (ckL l nest many).1 = 0 → many + l.length ≤ (ckL l nest many).2 ∧ (ckL l nest many).2 ≤ 200
 | [], nest, many => by
  intro hm _
  simp only [ckL, List.length_nil]; omega
 | x :: r, nest, many => by
  intro hm h
  simp only [ckL] at h ⊢
  by_cases h1 : (ck x nest many).1 = 0
  ·rw [if_pos h1] at h ⊢
   have h2 := ck_many x nest many h1
   have h3 := ckL_many r nest (ck x nest many).2 h2.2 h
   simp only [List.length_cons]
   omega
  ·rw [if_neg h1] at h; exact absurd h h1
end
def oc (p : Int × Int) : Sum (Int × Int) Int := if p.1 = 0 then .inr p.2 else .inl p
theorem ck_eq (x : D) (nest many : Int) : ck (itOf x) nest many = if many + 1 > 200 ∨ nest > 3 then (3, many + 1) else
  if (x.cell 0).toI = 1 ∨ (x.cell 0).toI = 2 then (stepE (x.cell 0).toI (x.cell 1).toS (x.cell 2).toI (x.cell 3).toI (x.cell 4).toI (x.cell 5).toB (x.cell 6).toI (x.cell 7).toI (x.cell 8).toI (x.cell 9).items.length, many + 1) else
  if (x.cell 0).toI = 3 then (if repE (x.cell 1).toS (x.cell 2).toI (x.cell 3).toI (x.cell 4).toI (x.cell 5).toB (x.cell 6).toI (x.cell 7).toI (x.cell 8).toI (x.cell 9).items.length = 0 then ckL (its (x.cell 9).items) (nest + 1) (many + 1) else (repE (x.cell 1).toS (x.cell 2).toI (x.cell 3).toI (x.cell 4).toI (x.cell 5).toB (x.cell 6).toI (x.cell 7).toI (x.cell 8).toI (x.cell 9).items.length, many + 1)) else
  (7, many + 1) := by
 rw [itOf_eq, ck, its_length]
theorem R31_eq (hN : maxLen < N) : ∀ (m d : Nat) (nl : Bool) (l : List D) (nest many : Int), okN d l → 0 ≤ nest → nest ≤ 4 → 5 ≤ nest + m → 0 ≤ many → many ≤ 200 → R31x1 N m nl l nest many = some (ckL (its l) nest many)
 | 0, _, _, _, _, _, _, _, _, _, _, _ => by omega
 | _, 0, _, _, _, _, h, _, _, _, _, _ => h.elim
 | m + 1, d + 1, nl, l, nest, many, hok, h0, h4, h5, hm0, hm1 => by
  show G31x1 N (R31x1 N m) nl l nest many = _
  have kid : ∀ x ∈ l, ∀ k, nest ≤ 3 → 0 ≤ k → k ≤ 200 → R31x1 N m (x.cell 9).isNil (x.cell 9).items (nest + 1) k = some (ckL (its (x.cell 9).items) (nest + 1) k) := fun x hx k hn k0 k1 =>
   R31_eq hN m d _ _ _ _ (hok.2 x hx).2 (by omega) (by omega) (by omega) k0 k1
  generalize R31x1 N m = rc at kid ⊢
  have e : G31x1x6 N rc nest l (l.length : Int) 0 many = some (oc (ckL (its l) nest many)) := by
   unfold G31x1x6
   refine for_acc (A := Int) (S := fun w a kr => S31x1x6 N rc nest l (l.length : Int) w a kr (fun p => some (Sum.inl p)) (fun p => some (Sum.inr p))) (L := fun m w a => L31x1x6 N rc nest l (l.length : Int) m w a (fun p => some (Sum.inl p)) (fun p => some (Sum.inr p))) (fun m w a => rfl)
    (fun w a => 0 ≤ a ∧ a ≤ 200) (fun r a => some (oc (ckL (its r) nest a))) hok.1 ?_ ?_ hN many ⟨hm0, hm1⟩
   ·intro a kr _
    simp [S31x1x6, its, ckL, oc]
   ·intro w a kr x r hx hw0 hw1 hw hi hk hr ⟨ha0, ha1⟩ ih
    have hmm : maxLen = 9223372036854775807 := rfl
    have wa : IntKind.wrap .i64 (a + 1) = a + 1 := wrapI (by omega) (by omega)
    have wn : IntKind.wrap .i64 (nest + 1) = nest + 1 := wrapI (by omega) (by omega)
    simp only [S31x1x6, decide_eq_true hw1, _root_.cond_true, hi, bnd_eq, hk, hw, wa]
    show _ = some (oc (ckL (itOf x :: its r) nest a))
    rw [ckL, bif_if (p := a + 1 > 200 ∨ nest > 3) (by simp)]
    by_cases c1 : a + 1 > 200 ∨ nest > 3
    ·rw [if_pos c1, ck_eq, if_pos c1]
     rfl
    rw [if_neg c1]
    have hv : V31x1x33002 N rc (x.cell 0).toI ((x.cell 0).toI == 1) = decide ((x.cell 0).toI = 1 ∨ (x.cell 0).toI = 2) := by
     unfold V31x1x33002 F31x1x33002
     rw [Bool.eq_iff_iff]; simp
    have hg : G31x1x39038 N rc nest (x.cell 0).toI (decide ((x.cell 0).toI = 1 ∨ (x.cell 0).toI = 2)) (a + 1) (x.cell 0).toI (x.cell 1).toS (x.cell 2).toI (x.cell 3).toI (x.cell 4).toI (x.cell 5).toB (x.cell 6).toI (x.cell 7).toI (x.cell 8).toI (x.cell 9).isNil (x.cell 9).items = some (ck (itOf x) nest a) := by
     rw [ck_eq, if_neg c1]
     unfold G31x1x39038 F31x1x39038
     by_cases c2 : (x.cell 0).toI = 1 ∨ (x.cell 0).toI = 2
     ·rw [decide_eq_true c2, if_pos c2, G57x0_eq hN (hok.2 x hx).1 c2]
      rfl
     rw [decide_eq_false c2, if_neg c2]
     unfold G31x1x27044 F31x1x27044
     by_cases c3 : (x.cell 0).toI = 3
     ·rw [if_pos c3, V58x0_eq, show ((x.cell 0).toI == 3) = true by simp [c3]]
      simp only [_root_.cond_true, _root_.cond_false, bnd_eq]
      unfold G31x1x50 F31x1x50
      by_cases c4 : repE (x.cell 1).toS (x.cell 2).toI (x.cell 3).toI (x.cell 4).toI (x.cell 5).toB (x.cell 6).toI (x.cell 7).toI (x.cell 8).toI (x.cell 9).items.length = 0
      ·rw [if_pos c4, c4, wn, kid x hx (a + 1) (by omega) (by omega) (by omega)]
       rfl
      ·rw [if_neg c4, show (repE (x.cell 1).toS (x.cell 2).toI (x.cell 3).toI (x.cell 4).toI (x.cell 5).toB (x.cell 6).toI (x.cell 7).toI (x.cell 8).toI (x.cell 9).items.length == 0) = false by simp [c4]]
       rfl
     ·rw [if_neg c3, show ((x.cell 0).toI == 3) = false by simp [c3]]
      rfl
    rw [hv, hg]
    simp only [Option.isSome_some, _root_.cond_true, getD_some]
    by_cases c5 : (ck (itOf x) nest a).1 = 0
    ·have hb := ck_many _ _ _ c5
     rw [if_pos c5, show ((ck (itOf x) nest a).1 != 0) = false by simp [c5]]
     exact ih _ ⟨by omega, by omega⟩
    ·rw [if_neg c5, show ((ck (itOf x) nest a).1 != 0) = true by simp [c5]]
     unfold oc
     rw [if_neg c5]
     rfl
  unfold G31x1 F31x1
  rw [e]
  unfold oc
  by_cases c : (ckL (its l) nest many).1 = 0
  ·rw [if_pos c]
   show some (0, (ckL (its l) nest many).2) = _
   rw [← c]
  ·rw [if_neg c]
   rfl
end Go.Proofs.YtpnacmnpahjpoaaGreatDoor

namespace Go.Proofs.YtpnacmnpahjpoaaGreatDoor
open Go Go.AM
set_option maxRecDepth 100000
set_option maxHeartbeats 4000000
variable {N : Nat}
def wr (x : Int) : Int := IntKind.wrap .i64 x
theorem wr_def (x : Int) : wr x = (x + 9223372036854775808) % 18446744073709551616 - 9223372036854775808 := by
 unfold wr
 rw [IntKind.wrap_i64]
theorem wr_of {x : Int} (h1 : -9223372036854775808 ≤ x) (h2 : x ≤ 9223372036854775807) : wr x = x := wrapI h1 h2
theorem wr_eq (x : Int) : ∃ k : Int, wr x = x + 18446744073709551616 * k := ⟨-((x + 9223372036854775808) / 18446744073709551616), by rw [wr_def]; omega⟩
theorem wr_add (x k : Int) : wr (x + 18446744073709551616 * k) = wr x := by rw [wr_def, wr_def]; omega
theorem wr_sum (a b : Int) : wr (wr a + b) = wr (a + b) := by
 obtain ⟨k, h⟩ := wr_eq a
 rw [h, show a + 18446744073709551616 * k + b = a + b + 18446744073709551616 * k by omega, wr_add]
theorem wr_sum' (a b : Int) : wr (a + wr b) = wr (a + b) := by rw [Int.add_comm, wr_sum, Int.add_comm]
theorem wr_mul (t y : Int) : wr (t * wr y) = wr (t * y) := by
 obtain ⟨k, h⟩ := wr_eq y
 rw [h, show t * (y + 18446744073709551616 * k) = t * y + 18446744073709551616 * (t * k) by rw [Int.mul_add, Int.mul_left_comm], wr_add]
mutual
def bl : It → Int
 | .mk k _ _ _ _ _ _ _ tm its => if k = 3 then tm * blL its else 1
def blL : List It → Int
 | [] => 0
 | x :: r => bl x + blL r
end
theorem bl_eq (x : D) : bl (itOf x) = if (x.cell 0).toI = 3 then (x.cell 8).toI * blL (its (x.cell 9).items) else 1 := by
 rw [itOf_eq, bl]
theorem R32_eq (hN : maxLen < N) : ∀ (m d : Nat) (nl : Bool) (l : List D), okN d l → d ≤ m → R32x1 N m nl l = some (wr (blL (its l)))
 | _, 0, _, _, h, _ => h.elim
 | 0, _ + 1, _, _, _, h => by omega
 | m + 1, d + 1, nl, l, hok, hd => by
  show G32x1 N (R32x1 N m) nl l = _
  have kid : ∀ x ∈ l, R32x1 N m (x.cell 9).isNil (x.cell 9).items = some (wr (blL (its (x.cell 9).items))) := fun x hx =>
   R32_eq hN m d _ _ (hok.2 x hx).2 (by omega)
  generalize R32x1 N m = rc at kid ⊢
  have e : G32x1x9 N rc l (l.length : Int) 0 0 = some (wr (0 + blL (its l))) := by
   unfold G32x1x9
   refine for_acc (A := Int) (S := fun w a kr => S32x1x9 N rc l (l.length : Int) a w (fun a w => kr w a) (fun p => some p)) (L := fun m w a => L32x1x9 N rc l (l.length : Int) m a w (fun p => some p)) (fun m w a => rfl)
    (fun w a => wr a = a) (fun r a => some (wr (a + blL (its r)))) hok.1 ?_ ?_ hN 0 (wr_of (by omega) (by omega))
   ·intro a kr ha
    simp [S32x1x9, its, blL, ha]
   ·intro w a kr x r hx hw0 hw1 hw hi hk hr ha ih
    simp only [S32x1x9, decide_eq_true hw1, _root_.cond_true, hi, bnd_eq, hk, hw]
    have hg : G32x1x21020 N rc a ((x.cell 0).toI == 3) (x.cell 8).toI (x.cell 9).isNil (x.cell 9).items = some (wr (a + bl (itOf x))) := by
     unfold G32x1x21020 F32x1x21020
     rw [bl_eq, kid x hx, bif_if (p := (x.cell 0).toI = 3) (by simp)]
     by_cases c : (x.cell 0).toI = 3
     ·rw [if_pos c, if_pos c]
      show some (wr (a + wr ((x.cell 8).toI * wr (blL (its (x.cell 9).items))))) = _
      rw [wr_mul, wr_sum']
     ·rw [if_neg c, if_neg c]
      rfl
    rw [hg]
    simp only [Option.isSome_some, _root_.cond_true, getD_some]
    rw [ih _ (by have := wr_sum (a + bl (itOf x)) 0; simpa using this)]
    show some (wr (wr (a + bl (itOf x)) + blL (its r))) = some (wr (a + blL (itOf x :: its r)))
    rw [wr_sum, blL, Int.add_assoc]
  unfold G32x1 F32x1
  rw [e]
  simp [bnd_eq]
def chkW (nm : List UInt8) (l : List It) : Int :=
 if nameB nm = false then 8 else if l.length = 0 then 13 else
 if (ckL l 0 0).1 = 0 then (if wr (blL l) > 1000 then 3 else 0) else (ckL l 0 0).1
theorem G10x0_eq (hN : maxLen < N) {d : Nat} {nm : List UInt8} {nl : Bool} {l : List D} (hnm : nm.length ≤ maxLen) (hok : okN d l) (hd : d ≤ N) : G10x0 N nm nl l = some (chkW nm (its l)) := by
 have hm : maxLen = 9223372036854775807 := rfl
 unfold G10x0 F10x0 chkW
 rw [G30x0_eq hN hnm, R31_eq hN N d nl l 0 0 hok (by omega) (by omega) (by omega) (by omega) (by omega), R32_eq hN N d nl l hok hd, its_length]
 simp only [bnd_eq, Option.isSome_some, _root_.cond_true, getD_some]
 rw [bif_if (p := nameB nm = false) (by simp), bif_if (p := l.length = 0) (by simp), bif_if (b := decide (wr (blL (its l)) > 1000)) decide_eq_true_iff]
 by_cases h1 : nameB nm = false
 ·rw [if_pos h1, if_pos h1]
 rw [if_neg h1, if_neg h1]
 by_cases h2 : l.length = 0
 ·rw [if_pos h2, if_pos h2]
 rw [if_neg h2, if_neg h2]
 by_cases h3 : (ckL (its l) 0 0).1 = 0
 ·rw [if_pos h3, show ((ckL (its l) 0 0).1 != 0) = false by simp [h3]]
  by_cases h4 : wr (blL (its l)) > 1000
  ·rw [if_pos h4]; simp only [if_pos h4]; rfl
  ·rw [if_neg h4]; simp only [if_neg h4]; rfl
 ·rw [if_neg h3, show ((ckL (its l) 0 0).1 != 0) = true by simp [h3]]
  rfl
noncomputable instance : DecidableEq It := fun _ _ => Classical.propDecidable _
noncomputable def okB (p : Prop) : Sum Unit Unit := @ite _ p (Classical.propDecidable p) (.inr ()) (.inl ())
theorem okB_yes {p : Prop} (h : p) : okB p = .inr () := by unfold okB; rw [if_pos h]
theorem okB_no {p : Prop} (h : ¬ p) : okB p = .inl () := by unfold okB; rw [if_neg h]
theorem okB_congr {p q : Prop} (h : p = q) : okB p = okB q := by rw [h]
theorem itOf_inj (x y : D) : itOf x = itOf y ↔ (x.cell 0).toI = (y.cell 0).toI ∧ (x.cell 1).toS = (y.cell 1).toS ∧ (x.cell 2).toI = (y.cell 2).toI ∧ (x.cell 3).toI = (y.cell 3).toI ∧ (x.cell 4).toI = (y.cell 4).toI ∧ (x.cell 5).toB = (y.cell 5).toB ∧ (x.cell 6).toI = (y.cell 6).toI ∧ (x.cell 7).toI = (y.cell 7).toI ∧ (x.cell 8).toI = (y.cell 8).toI ∧ its (x.cell 9).items = its (y.cell 9).items := by
 rw [itOf_eq x, itOf_eq y, It.mk.injEq]
theorem R36_eq (hN : maxLen < N) : ∀ (m d : Nat) (nl nl' : Bool) (l l' : List D), okN d l → okN d l' → d ≤ m → R36x1 N m nl l nl' l' = some (decide (its l = its l'))
 | _, 0, _, _, _, _, h, _, _ => h.elim
 | 0, _ + 1, _, _, _, _, _, _, h => by omega
 | m + 1, d + 1, nl, nl', l, l', hok, hok', hd => by
  show G36x1 N (R36x1 N m) nl l nl' l' = _
  have kid : ∀ x ∈ l, ∀ y ∈ l', R36x1 N m (x.cell 9).isNil (x.cell 9).items (y.cell 9).isNil (y.cell 9).items = some (decide (its (x.cell 9).items = its (y.cell 9).items)) := fun x hx y hy =>
   R36_eq hN m d _ _ _ _ (hok.2 x hx).2 (hok'.2 y hy).2 (by omega)
  generalize R36x1 N m = rc at kid ⊢
  unfold G36x1 F36x1 G61x0 F61x0
  by_cases hl : l.length = l'.length
  ·have e : G61x0x12 N rc l' l (l.length : Int) 0 = some (okB (its l = its l')) := by
    unfold G61x0x12
    refine (for_ind (.i 0 : D) (S := fun w kr => S61x0x12 N rc l' l (l.length : Int) w kr (fun p => some (Sum.inl p)) (fun p => some (Sum.inr p))) (L := fun m w => L61x0x12 N rc l' l (l.length : Int) m w (fun p => some (Sum.inl p)) (fun p => some (Sum.inr p))) (fun m w => rfl)
     (fun w r => some (okB (its r = its (l'.drop w.toNat)))) hok.1 ?_ ?_ hN).trans rfl
    ·intro kr
     simp [S61x0x12, its, hl, okB_yes]
    ·intro w kr hw0 hw1 hw hi hk
     have hw2 : w < l'.length := by omega
     rw [drop_at (.i 0) hw0 hw2]
     simp only [S61x0x12, decide_eq_true hw1, _root_.cond_true, hi, inB_of hw0 hw2, bnd_eq, hw]
     have hx := getD_memD hw0 hw1
     have hy := getD_memD hw0 hw2
     rw [hk]
     generalize l.getD w.toNat (.i 0) = x at hx ⊢
     generalize l'.getD w.toNat (.i 0) = y at hy ⊢
     have hg : G62x0 N rc (x.cell 0).toI (x.cell 1).toS (x.cell 2).toI (x.cell 3).toI (x.cell 4).toI (x.cell 5).toB (x.cell 6).toI (x.cell 7).toI (x.cell 8).toI (x.cell 9).isNil (x.cell 9).items (y.cell 0).toI (y.cell 1).toS (y.cell 2).toI (y.cell 3).toI (y.cell 4).toI (y.cell 5).toB (y.cell 6).toI (y.cell 7).toI (y.cell 8).toI (y.cell 9).isNil (y.cell 9).items = some (decide (itOf x = itOf y)) := by
      unfold G62x0 F62x0 G62x0x4 F62x0x4
      rw [kid x hx y hy]
      simp only [bnd_eq, Option.isSome_some, _root_.cond_true, getD_some]
      have e2 := itOf_inj x y
      by_cases q : its (x.cell 9).items = its (y.cell 9).items
      ·rw [decide_eq_true q]
       rw [cond_some]
       simp only [Option.isSome_some, _root_.cond_true, getD_some]
       congr 1
       rw [Bool.eq_iff_iff, decide_eq_true_iff, e2]
       simp [q, and_assoc]
      ·rw [decide_eq_false q, decide_eq_false (fun h => q (e2.1 h).2.2.2.2.2.2.2.2.2)]
       rw [cond_some]
       simp
     rw [hg]
     simp only [Option.isSome_some, _root_.cond_true, getD_some]
     show _ = some (okB (itOf x :: its _ = itOf y :: its _))
     by_cases q : itOf x = itOf y
     ·rw [decide_eq_true q, q]
      show some _ = some _
      rw [okB_congr (List.cons.injEq ..)]
      simp
     ·rw [decide_eq_false q, okB_no fun h => q (List.cons.inj h).1]
      rfl
   rw [show ((l.length : Int) != (l'.length : Int)) = false by simp [hl], e]
   by_cases q : its l = its l'
   ·rw [okB_yes q, decide_eq_true q]; rfl
   ·rw [okB_no q, decide_eq_false q]; rfl
  ·rw [show ((l.length : Int) != (l'.length : Int)) = true by simp; omega, decide_eq_false fun h => hl (by rw [← its_length l, ← its_length l', h])]
   rfl
end Go.Proofs.YtpnacmnpahjpoaaGreatDoor

namespace Go.Proofs.YtpnacmnpahjpoaaGreatDoor
open Go Go.AM
set_option maxRecDepth 100000
set_option maxHeartbeats 4000000
variable {N : Nat}
mutual
def okI : Int → It → Prop
 | nest, .mk k nm sec way ms pct lo hi tm its => nest ≤ 3 ∧ ((k = 1 ∨ k = 2) ∧ stepE k nm sec way ms pct lo hi tm its.length = 0 ∨ k = 3 ∧ repE nm sec way ms pct lo hi tm its.length = 0 ∧ okIL (nest + 1) its)
def okIL : Int → List It → Prop
 | _, [] => True
 | nest, x :: r => okI nest x ∧ okIL nest r
end
theorem okIL_iff {nest : Int} : ∀ {l : List It}, okIL nest l ↔ ∀ x ∈ l, okI nest x
 | [] => by simp [okIL]
 | x :: r => by simp [okIL, okIL_iff (l := r)]

mutual
def cn : It → Int
 | .mk _ _ _ _ _ _ _ _ _ its => 1 + cnL its
def cnL : List It → Int
 | [] => 0
 | x :: r => cn x + cnL r
end
mutual
theorem cn_pos : ∀ x : It, 1 ≤ cn x
 | .mk _ _ _ _ _ _ _ _ _ its => by have := cnL_nn its; rw [cn]; omega
theorem cnL_nn : ∀ l : List It, 0 ≤ cnL l
 | [] => by rw [cnL]; omega
 | x :: r => by have := cn_pos x; have := cnL_nn r; rw [cnL]; omega
end
mutual
theorem ck_ok : ∀ (x : It) (nest many : Int), (ck x nest many).1 = 0 → okI nest x
 | .mk k nm sec way ms pct lo hi tm its, nest, many => by
  intro h
  rw [ck] at h
  rw [okI]
  by_cases h1 : many + 1 > 200 ∨ nest > 3
  ·rw [if_pos h1] at h; cases h
  rw [if_neg h1] at h
  refine ⟨by omega, ?_⟩
  by_cases h2 : k = 1 ∨ k = 2
  ·rw [if_pos h2] at h; exact .inl ⟨h2, h⟩
  rw [if_neg h2] at h
  by_cases h3 : k = 3
  ·rw [if_pos h3] at h
   by_cases h4 : repE nm sec way ms pct lo hi tm its.length = 0
   ·rw [if_pos h4] at h
    exact .inr ⟨h3, h4, ckL_ok its (nest + 1) (many + 1) h⟩
   ·rw [if_neg h4] at h; exact absurd h h4
  ·rw [if_neg h3] at h; cases h
theorem ckL_ok : ∀ (l : List It) (nest many : Int), (ckL l nest many).1 = 0 → okIL nest l
 | [], _, _ => fun _ => trivial
 | x :: r, nest, many => by
  intro h
  rw [ckL] at h
  by_cases h1 : (ck x nest many).1 = 0
  ·rw [if_pos h1] at h
   exact ⟨ck_ok x nest many h1, ckL_ok r nest _ h⟩
  ·rw [if_neg h1] at h; exact absurd h h1
end
mutual
theorem ck_of : ∀ (x : It) (nest many : Int), okI nest x → many + cn x ≤ 200 → ck x nest many = (0, many + cn x)
 | .mk k nm sec way ms pct lo hi tm its, nest, many => by
  intro h hc
  rw [okI] at h
  rw [cn] at hc ⊢
  have := cnL_nn its
  rw [ck, if_neg (by omega)]
  obtain ⟨_, ⟨h2, h3⟩ | ⟨h2, h3, h4⟩⟩ := h
  ·rw [if_pos h2, h3]
   have e : its.length = 0 := by
    cases hf : formF sec way tm its.length with
    | true =>
     unfold stepE at h3
     rw [hf] at h3
     cases hn : nameB nm <;> rw [hn] at h3 <;> simp at h3
    | false => simp [formF] at hf; simp [hf]
   obtain rfl := List.eq_nil_of_length_eq_zero e
   simp [cnL]
  ·rw [if_neg (by omega), if_pos h2, if_pos h3, ckL_of its (nest + 1) (many + 1) h4 (by omega), Int.add_assoc]
theorem ckL_of : ∀ (l : List It) (nest many : Int), okIL nest l → many + cnL l ≤ 200 → ckL l nest many = (0, many + cnL l)
 | [], _, _ => fun _ _ => by simp [ckL, cnL]
 | x :: r, nest, many => by
  intro h hc
  rw [cnL] at hc ⊢
  have := cnL_nn r
  have h1 := ck_of x nest many h.1 (by omega)
  have h2 := ckL_of r nest (many + cn x) h.2 (by omega)
  rw [ckL, h1, if_pos rfl, h2, Int.add_assoc]
end
def leafI (x : It) : Prop := (x.kind = 1 ∨ x.kind = 2) ∧ stE x = 0
theorem leaf_kids {x : It} (h : leafI x) : x.kids = [] := by
 cases x with
 | mk k nm sec way ms pct lo hi tm its =>
 have h3 : stepE k nm sec way ms pct lo hi tm its.length = 0 := h.2
 cases hf : formF sec way tm its.length with
 | true =>
  unfold stepE at h3
  rw [hf] at h3
  cases hn : nameB nm <;> rw [hn] at h3 <;> simp at h3
 | false =>
  have : its.length = 0 := by simp [formF] at hf; simp [hf]
  exact List.eq_nil_of_length_eq_zero this
theorem okI_cases {nest : Int} {x : It} (h : okI nest x) : nest ≤ 3 ∧ (leafI x ∨ x.kind = 3 ∧ 1 ≤ x.tm ∧ x.tm ≤ 99 ∧ x.kids ≠ [] ∧ okIL (nest + 1) x.kids) := by
 cases x with
 | mk k nm sec way ms pct lo hi tm its =>
 rw [okI] at h
 refine ⟨h.1, ?_⟩
 obtain ⟨_, ⟨h2, h3⟩ | ⟨h2, h3, h4⟩⟩ := h
 ·exact .inl ⟨h2, h3⟩
 ·right
  unfold repE at h3
  by_cases c1 : nm ≠ [] ∨ sec ≠ 0 ∨ way ≠ 0 ∨ noAim ms pct lo hi = false
  ·rw [if_pos c1] at h3; cases h3
  rw [if_neg c1] at h3
  cases c2 : inI tm 1 99 with
  | false => rw [c2] at h3; simp at h3
  | true =>
   rw [c2] at h3
   simp only [inI, decide_eq_true_eq] at c2
   by_cases c3 : its.length = 0
   ·rw [if_neg (by simp), if_pos c3] at h3; cases h3
   ·exact ⟨h2, c2.1, c2.2, fun h => c3 (by rw [show its = [] from h]; rfl), h4⟩
def rep {A : Type} (n : Nat) (l : List A) : List A := (List.replicate n l).flatten
theorem rep_zero {A : Type} (l : List A) : rep 0 l = [] := rfl
theorem rep_succ {A : Type} (n : Nat) (l : List A) : rep (n + 1) l = l ++ rep n l := by
 unfold rep; rw [List.replicate_succ, List.flatten_cons]
theorem rep_length {A : Type} (l : List A) : ∀ n, (rep n l).length = n * l.length
 | 0 => by simp [rep_zero]
 | n + 1 => by rw [rep_succ, List.length_append, rep_length l n, Nat.succ_mul, Nat.add_comm]
theorem rep_map {A B : Type} (f : A → B) (l : List A) : ∀ n, (rep n l).map f = rep n (l.map f)
 | 0 => rfl
 | n + 1 => by rw [rep_succ, rep_succ, List.map_append, rep_map f l n]
theorem rep_mem {A : Type} {x : A} {l : List A} : ∀ {n}, x ∈ rep n l → x ∈ l
 | 0, h => by simp [rep_zero] at h
 | n + 1, h => by
  rw [rep_succ] at h
  rcases List.mem_append.1 h with h | h
  ·exact h
  ·exact rep_mem h
mutual
def un : It → List It
 | .mk k nm sec way ms pct lo hi tm its => if k = 3 then rep tm.toNat (unL its) else [.mk k nm sec way ms pct lo hi tm its]
def unL : List It → List It
 | [] => []
 | x :: r => un x ++ unL r
end
theorem un_eq (x : It) : un x = if x.kind = 3 then rep x.tm.toNat (unL x.kids) else [x] := by
 cases x; rw [un]; rfl
theorem unL_flat : ∀ l : List It, unL l = l.flatMap un
 | [] => rfl
 | x :: r => by rw [unL, unL_flat r, List.flatMap_cons]
theorem un_leaf {x : It} (h : leafI x) : un x = [x] := by
 rw [un_eq, if_neg (by rcases h.1 with h | h <;> omega)]
theorem unL_leaf {l : List It} (h : ∀ x ∈ l, leafI x) : unL l = l := by
 induction l with
 | nil => rfl
 | cons x r ih => rw [unL, un_leaf (h x (by simp)), ih fun y hy => h y (by simp [hy])]; rfl
mutual
theorem un_ok : ∀ (x : It) (nest : Int), okI nest x → ((un x).length : Int) = bl x ∧ 1 ≤ bl x ∧ ∀ y ∈ un x, leafI y
 | .mk k nm sec way ms pct lo hi tm its, nest => by
  intro h
  obtain ⟨_, h1 | ⟨h1, h2, h3, h4, h5⟩⟩ := okI_cases h
  ·have hk : k ≠ 3 := by have : k = 1 ∨ k = 2 := h1.1; omega
   rw [un_leaf h1, bl, if_neg hk]
   exact ⟨rfl, by omega, by simpa using h1⟩
  ·have hk : k = 3 := h1
   obtain ⟨q1, q2, q3⟩ := unL_ok its (nest + 1) h5
   have hl : 1 ≤ its.length := by
    cases its with
    | nil => exact absurd rfl h4
    | cons a b => simp
   have h2' : 1 ≤ tm := h2
   rw [un, bl, if_pos hk, if_pos hk, rep_length]
   refine ⟨?_, ?_, fun y hy => q3 y (rep_mem hy)⟩
   ·rw [Int.natCast_mul, q1, Int.toNat_of_nonneg (by omega)]
   ·have : 1 * 1 ≤ tm * blL its := Int.mul_le_mul h2' (by omega) (by omega) (by omega)
    omega
theorem unL_ok : ∀ (l : List It) (nest : Int), okIL nest l → ((unL l).length : Int) = blL l ∧ l.length ≤ blL l ∧ ∀ y ∈ unL l, leafI y
 | [], _ => fun _ => ⟨rfl, by simp [blL], by simp [unL]⟩
 | x :: r, nest => by
  intro h
  obtain ⟨a1, a2, a3⟩ := un_ok x nest h.1
  obtain ⟨b1, b2, b3⟩ := unL_ok r nest h.2
  rw [unL, blL]
  refine ⟨by rw [List.length_append]; omega, by rw [List.length_cons]; omega, fun y hy => ?_⟩
  rcases List.mem_append.1 hy with h | h
  ·exact a3 y h
  ·exact b3 y h
end
end Go.Proofs.YtpnacmnpahjpoaaGreatDoor

namespace Go.Proofs.YtpnacmnpahjpoaaGreatDoor
open Go Go.AM
set_option maxRecDepth 100000
set_option maxHeartbeats 4000000
variable {N : Nat}
def cpD (x : D) : D := .a [.i (x.cell 0).toI, .s (x.cell 1).toS, .i (x.cell 2).toI, .i (x.cell 3).toI, .i (x.cell 4).toI, .b (x.cell 5).toB, .i (x.cell 6).toI, .i (x.cell 7).toI, .i (x.cell 8).toI, .l (x.cell 9).isNil (x.cell 9).items]
theorem itOf_kind (x : D) : (itOf x).kind = (x.cell 0).toI := by rw [itOf_eq]; rfl
theorem itOf_tm (x : D) : (itOf x).tm = (x.cell 8).toI := by rw [itOf_eq]; rfl
theorem itOf_kids (x : D) : (itOf x).kids = its (x.cell 9).items := by rw [itOf_eq]; rfl
theorem itOf_cpD (x : D) : itOf (cpD x) = itOf x := by rw [itOf_eq, itOf_eq x]; rfl
def pc (x : D) : List D := if (x.cell 0).toI = 3 then rep (x.cell 8).toI.toNat ((x.cell 9).items.attach.map fun y => pc y.1).flatten else [cpD x]
termination_by szD x
decreasing_by
 have h1 := szDs_mem y.2
 have h2 := kids_lt x 9
 omega
def pcL (l : List D) : List D := (l.map pc).flatten
theorem pcL_cons (x : D) (r : List D) : pcL (x :: r) = pc x ++ pcL r := rfl
theorem pc_leaf {x : D} (h : (x.cell 0).toI ≠ 3) : pc x = [cpD x] := by rw [pc, if_neg h]
theorem pc_rep {x : D} (h : (x.cell 0).toI = 3) : pc x = rep (x.cell 8).toI.toNat (pcL (x.cell 9).items) := by
 rw [pc, if_pos h]
 unfold pcL
 rw [List.map_attach_eq_pmap, List.pmap_eq_map]
theorem its_append (a b : List D) : its (a ++ b) = its a ++ its b := List.map_append ..
theorem its_flatten : ∀ ls : List (List D), its ls.flatten = (ls.map its).flatten
 | [] => rfl
 | l :: r => by rw [List.flatten_cons, its_append, its_flatten r]; rfl
theorem pc_its (x : D) : its (pc x) = un (itOf x) := by
 by_cases h : (x.cell 0).toI = 3
 ·rw [pc_rep h, un_eq, itOf_kind, if_pos h, itOf_tm, itOf_kids]
  show List.map itOf _ = rep _ (unL (its _))
  rw [rep_map]
  congr 1
  rw [unL_flat, its, List.flatMap_map]
  show its (pcL _) = _
  unfold pcL
  rw [its_flatten, List.map_map, List.flatMap_def]
  congr 1
  apply List.map_congr_left
  intro y hy
  have h1 := szDs_mem hy
  have h2 := kids_lt x 9
  exact pc_its y
 ·rw [pc_leaf h, un_eq, if_neg (show ¬ (itOf x).kind = 3 by rw [itOf_eq]; exact h), ← itOf_cpD]
  rfl
termination_by szD x
theorem pcL_its (l : List D) : its (pcL l) = unL (its l) := by
 rw [unL_flat, its, its, List.flatMap_map]
 show its (pcL _) = _
 unfold pcL
 rw [its_flatten, List.map_map, List.flatMap_def]
 congr 1
 apply List.map_congr_left
 intro y _
 exact pc_its y
theorem bl_mem {nest : Int} : ∀ {l : List D}, okIL nest (its l) → ∀ {x}, x ∈ l → bl (itOf x) ≤ blL (its l)
 | y :: l, h, x, hx => by
  have h0 : okI nest (itOf y) ∧ okIL nest (its l) := h
  have h1 := (un_ok _ _ h0.1).2.1
  have h2 := (unL_ok _ _ h0.2).2.1
  show bl (itOf x) ≤ blL (itOf y :: its l)
  rw [blL]
  rcases List.mem_cons.1 hx with rfl | hx
  ·omega
  ·have := bl_mem h0.2 hx; omega
theorem rep40 {rc : Rc40x1} (w1 : List D) (w6 : Int) : ∀ (k : Nat) (w : Int) (b : Bool) (acc : List D) (m : Nat), 0 ≤ w → w6 < 100000 → (w6 - w).toNat = k → k < m → acc.length + k * w1.length ≤ 1000000 →
  L40x1x27 N rc (R := Bool × List D) w1 w6 m w b acc (fun p => some p) = some (b && (rep k w1).isEmpty, acc ++ rep k w1)
 | 0, w, b, acc, m, h0, h6, hk, hm, hl => by
  obtain ⟨m, rfl⟩ : ∃ m', m = m' + 1 := ⟨m - 1, by omega⟩
  show S40x1x27 N rc w1 w6 w b acc _ _ = _
  unfold S40x1x27
  rw [decide_eq_false (by omega)]
  simp [rep_zero]
 | k + 1, w, b, acc, m, h0, h6, hk, hm, hl => by
  obtain ⟨m, rfl⟩ : ∃ m', m = m' + 1 := ⟨m - 1, by omega⟩
  rw [Nat.succ_mul] at hl
  have ih := rep40 (rc := rc) w1 w6 k (w + 1) (w1.isEmpty && b) (acc ++ w1) m (by omega) h6 (by omega) (by omega) (by rw [List.length_append]; omega)
  show S40x1x27 N rc w1 w6 w b acc _ _ = _
  unfold S40x1x27
  have q1 : (acc.length + w1.length) * 104 ≤ room := by unfold room; omega
  have q2 : acc.length + w1.length ≤ strMax := by unfold strMax; omega
  rw [decide_eq_true (show w < w6 by omega), decide_eq_true q1, decide_eq_true q2, wrapI (by omega) (by omega)]
  refine Eq.trans ih ?_
  rw [rep_succ, List.append_assoc]
  congr 2
  cases b <;> cases w1 <;> simp
theorem R40_eq (hN : maxLen < N) : ∀ (m d : Nat) (nl : Bool) (l : List D) (nest : Int), okN d l → okIL nest (its l) → blL (its l) ≤ 1000 → d ≤ m → R40x1 N m nl l = some ((pcL l).isEmpty, pcL l)
 | _, 0, _, _, _, h, _, _, _ => h.elim
 | 0, _ + 1, _, _, _, _, _, _, h => by omega
 | m + 1, d + 1, nl, l, nest, hok, hr, hb, hd => by
  show G40x1 N (R40x1 N m) nl l = _
  have kid : ∀ x ∈ l, (x.cell 0).toI = 3 → 0 ≤ (x.cell 8).toI ∧ (x.cell 8).toI ≤ 99 ∧ R40x1 N m (x.cell 9).isNil (x.cell 9).items = some ((pcL (x.cell 9).items).isEmpty, pcL (x.cell 9).items) := fun x hx hk => by
   have h1 := okIL_iff.1 hr (itOf x) (List.mem_map_of_mem hx)
   have h2 := bl_mem hr hx
   obtain ⟨h3, h4⟩ := okI_cases h1
   rw [itOf_eq] at h4
   rcases h4 with h4 | ⟨_, h5, h6, h7, h8⟩
   ·have : (x.cell 0).toI = 1 ∨ (x.cell 0).toI = 2 := h4.1
    omega
   ·have h5' : 1 ≤ (x.cell 8).toI := h5
    have h6' : (x.cell 8).toI ≤ 99 := h6
    refine ⟨by omega, h6', R40_eq hN m d _ _ (nest + 1) (hok.2 x hx).2 h8 ?_ (by omega)⟩
    rw [bl_eq, if_pos hk] at h2
    have h9 : ((its (x.cell 9).items).length : Int) ≤ blL (its (x.cell 9).items) := (unL_ok _ _ h8).2.1
    have : 1 * blL (its (x.cell 9).items) ≤ (x.cell 8).toI * blL (its (x.cell 9).items) := Int.mul_le_mul_of_nonneg_right h5' (by omega)
    omega
  have kb : (pcL l).length ≤ 1000 := by
   have h1 := (unL_ok _ _ hr).1
   rw [← pcL_its, its_length] at h1
   omega
  generalize R40x1 N m = rc at kid ⊢
  have e : G40x1x9 N rc l (l.length : Int) 0 true [] = some (true && (pcL l).isEmpty, [] ++ pcL l) := by
   unfold G40x1x9
   refine for_acc (A := Bool × List D) (S := fun w a kr => S40x1x9 N rc l (l.length : Int) w a.1 a.2 (fun w b c => kr w (b, c)) (fun p => some p)) (L := fun m w a => L40x1x9 N rc l (l.length : Int) m w a.1 a.2 (fun p => some p)) (fun m w a => rfl)
    (fun w a => a.2.length + (pcL (l.drop w.toNat)).length ≤ 1000) (fun r a => some (a.1 && (pcL r).isEmpty, a.2 ++ pcL r)) hok.1 ?_ ?_ hN (true, []) (by simpa using kb)
   ·intro a kr ha
    simp [S40x1x9, pcL]
   ·intro w a kr x r hx hw0 hw1 hw hi hk hr' ha ih
    have hdr := drop_at (.i 0) hw0 hw1
    rw [hk, hr'] at hdr
    rw [hdr, pcL_cons, List.length_append] at ha
    have hra : a.2.length + (pc x).length + (pcL (l.drop (w + 1).toNat)).length ≤ 1000 := by rw [hr']; omega
    simp only [S40x1x9, decide_eq_true hw1, _root_.cond_true, hi, bnd_eq, hk, hw]
    rw [pcL_cons]
    by_cases c : (x.cell 0).toI = 3
    ·obtain ⟨k1, k3, k2⟩ := kid x hx c
     rw [show ((x.cell 0).toI != 3) = false by simp [c]]
     have hp : pc x = rep (x.cell 8).toI.toNat (pcL (x.cell 9).items) := pc_rep c
     rw [hp, rep_length] at hra
     have e2 : G40x1x27 N rc (pcL (x.cell 9).items) (x.cell 8).toI 0 a.1 a.2 = some (a.1 && (pc x).isEmpty, a.2 ++ pc x) := by
      rw [hp]
      have hmm : maxLen = 9223372036854775807 := rfl
      exact rep40 _ _ _ 0 _ _ N (by omega) (by omega) (by rw [Int.sub_zero]) (by omega) (by omega)
     simp only [k2, Option.isSome_some, _root_.cond_true, _root_.cond_false, getD_some, e2]
     refine (ih (_, _) (by rw [List.length_append, hp, rep_length]; omega)).trans ?_
     simp only [List.append_assoc, Bool.and_assoc]
     cases pc x <;> rfl
    ·rw [show ((x.cell 0).toI != 3) = true by simp [c]]
     have hp : pc x = [cpD x] := pc_leaf c
     rw [hp] at hra ⊢
     have q1 : (a.2.length + 1) * 104 ≤ room := by unfold room; simp at hra; omega
     have q2 : a.2.length + 1 ≤ strMax := by unfold strMax; simp at hra; omega
     rw [decide_eq_true q1, decide_eq_true q2]
     refine (ih (false, a.2 ++ [cpD x]) (by simpa using hra)).trans ?_
     simp
  unfold G40x1 F40x1
  rw [e]
  simp [bnd_eq]
end Go.Proofs.YtpnacmnpahjpoaaGreatDoor

namespace Go.Proofs.YtpnacmnpahjpoaaGreatDoor
open Go Go.AM
set_option maxRecDepth 100000
set_option maxHeartbeats 4000000
variable {N : Nat}
def sameP (l : List It) (n m : Nat) : Prop := (m + 1) * n ≤ l.length ∧ l.take n = (l.take ((m + 1) * n)).drop (m * n)
noncomputable instance (l : List It) (n m : Nat) : Decidable (sameP l n m) := Classical.propDecidable _
noncomputable def repsF (l : List It) (n : Nat) : Nat → Nat → Nat
 | 0, m => m
 | k + 1, m => if sameP l n m then repsF l n k (m + 1) else m
noncomputable def reps (l : List It) (n : Nat) : Nat := repsF l n 98 1
theorem rep_last {A : Type} (l : List A) : ∀ n, rep (n + 1) l = rep n l ++ l
 | 0 => by rw [rep_succ, rep_zero]; simp
 | n + 1 => by
  have h := rep_last l n
  rw [rep_succ (n + 1) l, h, ← List.append_assoc]
  rw [rep_succ] at h
  rw [h]
theorem repsF_spec (l : List It) (n : Nat) : ∀ (k m : Nat), m * n ≤ l.length → l.take (m * n) = rep m (l.take n) →
  m ≤ repsF l n k m ∧ repsF l n k m ≤ m + k ∧ repsF l n k m * n ≤ l.length ∧ l.take (repsF l n k m * n) = rep (repsF l n k m) (l.take n)
 | 0, m, h1, h2 => ⟨Nat.le_refl _, Nat.le_refl _, h1, h2⟩
 | k + 1, m, h1, h2 => by
  rw [repsF]
  by_cases h : sameP l n m
  ·rw [if_pos h]
   have h3 : l.take ((m + 1) * n) = rep (m + 1) (l.take n) := by
    have e := List.take_append_drop (m * n) (l.take ((m + 1) * n))
    rw [List.take_take, Nat.min_eq_left (Nat.mul_le_mul_right n (Nat.le_succ m)), h2, ← h.2, ← rep_last] at e
    exact e.symm
   obtain ⟨a, b, c, d⟩ := repsF_spec l n k (m + 1) h.1 h3
   exact ⟨by omega, by omega, c, d⟩
  ·rw [if_neg h]
   exact ⟨Nat.le_refl _, by omega, h1, h2⟩
theorem reps_spec {l : List It} {n : Nat} (hn : n ≤ l.length) : 1 ≤ reps l n ∧ reps l n ≤ 99 ∧ reps l n * n ≤ l.length ∧ l.take (reps l n * n) = rep (reps l n) (l.take n) := by
 have h := repsF_spec l n 98 1 (by omega) (by rw [rep_succ, rep_zero]; simp)
 exact ⟨h.1, h.2.1, h.2.2⟩
noncomputable def stepB (l : List It) (s : Nat × Nat × Nat) (n : Nat) : Nat × Nat × Nat := if n * reps l n - n - 1 > s.1 then (n * reps l n - n - 1, n, reps l n) else s
noncomputable def bestF (l : List It) : Nat → Nat → Nat × Nat × Nat → Nat × Nat × Nat
 | 0, _, s => s
 | k + 1, n, s => bestF l k (n + 1) (stepB l s n)
noncomputable def bestOf (l : List It) (s : Nat × Nat × Nat) : Nat × Nat × Nat := bestF l (l.length / 2) 1 s
def GoodS (l : List It) (s : Nat × Nat × Nat) : Prop := s.1 = 0 ∨ (1 ≤ s.2.1 ∧ 2 * s.2.1 ≤ l.length ∧ s.2.2 = reps l s.2.1 ∧ s.1 = s.2.1 * s.2.2 - s.2.1 - 1 ∧ 0 < s.1)
theorem stepB_good {l : List It} {s : Nat × Nat × Nat} {n : Nat} (h : GoodS l s) (h1 : 1 ≤ n) (h2 : 2 * n ≤ l.length) : GoodS l (stepB l s n) := by
 unfold stepB
 by_cases c : n * reps l n - n - 1 > s.1
 ·rw [if_pos c]
  exact .inr ⟨h1, h2, rfl, rfl, by show 0 < n * reps l n - n - 1; omega⟩
 ·rw [if_neg c]; exact h
theorem bestF_good {l : List It} : ∀ (k n : Nat) (s : Nat × Nat × Nat), GoodS l s → 1 ≤ n → n + k ≤ l.length / 2 + 1 → GoodS l (bestF l k n s)
 | 0, _, _, h, _, _ => h
 | k + 1, n, s, h, h1, h2 => by
  rw [bestF]
  exact bestF_good k (n + 1) _ (stepB_good h h1 (by omega)) (by omega) (by omega)
theorem best_good (l : List It) (r t : Nat) : GoodS l (bestOf l (0, r, t)) := bestF_good _ _ _ (.inl rfl) (by omega) (by omega)
def mkR (t : Int) (l : List It) : It := .mk 3 [] 0 0 0 false 0 0 t l
noncomputable def foldK (g : List It → List It) : Nat → List It → List It
 | 0, _ => []
 | _ + 1, [] => []
 | n + 1, x :: r => if (bestOf (x :: r) (0, 1, 1)).1 = 0 then x :: foldK g n r else
  mkR ((bestOf (x :: r) (0, 1, 1)).2.2 : Int) (g ((x :: r).take (bestOf (x :: r) (0, 1, 1)).2.1)) :: foldK g n ((x :: r).drop ((bestOf (x :: r) (0, 1, 1)).2.1 * (bestOf (x :: r) (0, 1, 1)).2.2))
noncomputable def foldI : Nat → List It → List It
 | 0, l => l
 | d + 1, l => foldK (foldI d) l.length l
theorem best_facts {l : List It} (h : (bestOf l (0, 1, 1)).1 ≠ 0) : ∃ b r t, bestOf l (0, 1, 1) = (b, r, t) ∧ 1 ≤ r ∧ 2 * r ≤ l.length ∧ 2 ≤ t ∧ t ≤ 99 ∧ r * t ≤ l.length ∧ r + 1 < r * t ∧ rep t (l.take r) ++ l.drop (r * t) = l := by
 obtain h1 | ⟨h1, h2, h3, h4, h5⟩ := best_good l 1 1
 ·exact absurd h1 h
 ·generalize bestOf l (0, 1, 1) = s at *
  obtain ⟨b, r, t⟩ := s
  simp only at h1 h2 h3 h4 h5
  obtain ⟨a1, a2, a3, a4⟩ := reps_spec (l := l) (n := r) (by omega)
  rw [← h3] at a1 a2 a3 a4
  rw [Nat.mul_comm] at a3 a4
  refine ⟨b, r, t, rfl, h1, h2, ?_, a2, a3, by omega, ?_⟩
  ·rcases Nat.lt_or_ge t 2 with c | c
   ·have : t = 1 := by omega
    subst this
    omega
   ·exact c
  ·rw [← a4, List.take_append_drop]
theorem foldK_len {g : List It → List It} : ∀ (n : Nat) (l : List It), (foldK g n l).length ≤ l.length ∧ (l ≠ [] → n ≠ 0 → foldK g n l ≠ [])
 | 0, l => ⟨by simp [foldK], fun _ h => absurd rfl h⟩
 | n + 1, [] => ⟨by simp [foldK], fun h => absurd rfl h⟩
 | n + 1, x :: r => by
  rw [foldK]
  by_cases c : (bestOf (x :: r) (0, 1, 1)).1 = 0
  ·rw [if_pos c]
   have := (foldK_len (g := g) n r).1
   exact ⟨by simp; omega, fun _ _ => by simp⟩
  ·rw [if_neg c]
   obtain ⟨b, ro, t, e, h1, h2, h3, h4, h5, h6, h7⟩ := best_facts c
   rw [e]
   have := (foldK_len (g := g) n ((x :: r).drop (ro * t))).1
   rw [List.length_drop] at this
   exact ⟨by simp only [List.length_cons] at this ⊢; omega, fun _ _ => by simp⟩
theorem foldI_ne {d : Nat} {l : List It} (h : l ≠ []) : foldI d l ≠ [] := by
 cases d with
 | zero => exact h
 | succ d => exact (foldK_len _ l).2 h (by cases l with | nil => exact absurd rfl h | cons x r => simp)
theorem mem_drop' {A : Type} {x : A} {l : List A} {n : Nat} (h : x ∈ l.drop n) : x ∈ l := List.mem_of_mem_drop h
theorem un_mkR {t : Nat} {l : List It} : un (mkR (t : Int) l) = rep t (unL l) := by
 rw [un_eq]; rfl
theorem foldK_spec {g : List It → List It} {nest : Int} (hn : nest + 1 ≤ 3) (hg : ∀ l, (∀ x ∈ l, leafI x) → unL (g l) = l ∧ cnL (g l) ≤ l.length ∧ (l ≠ [] → g l ≠ []) ∧ okIL (nest + 1) (g l)) :
  ∀ (n : Nat) (l : List It), l.length ≤ n → (∀ x ∈ l, leafI x) → unL (foldK g n l) = l ∧ cnL (foldK g n l) ≤ l.length ∧ okIL nest (foldK g n l)
 | 0, l, h0, _ => by
  have : l = [] := List.eq_nil_of_length_eq_zero (by omega)
  subst this
  exact ⟨rfl, by simp [foldK, cnL], trivial⟩
 | n + 1, [], _, _ => ⟨rfl, by simp [foldK, cnL], trivial⟩
 | n + 1, x :: r, h0, hl => by
  rw [foldK]
  by_cases c : (bestOf (x :: r) (0, 1, 1)).1 = 0
  ·rw [if_pos c]
   obtain ⟨a1, a2, a3⟩ := foldK_spec hn hg n r (by simp at h0; omega) fun y hy => hl y (by simp [hy])
   have hx := hl x (by simp)
   refine ⟨by rw [unL, un_leaf hx, a1]; rfl, ?_, ?_, a3⟩
   ·rw [cnL]
    have : cn x = 1 := by
     have := leaf_kids hx
     cases x with
     | mk k nm sec way ms pct lo hi tm its => rw [cn, show its = [] from this]; rfl
    simp only [List.length_cons]; omega
   ·cases x with
    | mk k nm sec way ms pct lo hi tm its => rw [okI]; exact ⟨by omega, .inl hx⟩
  ·rw [if_neg c]
   obtain ⟨b, ro, t, e, h1, h2, h3, h4, h5, h6, h7⟩ := best_facts c
   rw [e]
   simp only
   obtain ⟨a1, a2, a3⟩ := foldK_spec hn hg n ((x :: r).drop (ro * t)) (by rw [List.length_drop]; simp only [List.length_cons] at h0 ⊢; omega) fun y hy => hl y (mem_drop' hy)
   obtain ⟨b1, b2, b3, b4⟩ := hg ((x :: r).take ro) fun y hy => hl y (List.mem_of_mem_take hy)
   have hlen : ((x :: r).take ro).length = ro := by rw [List.length_take]; simp only [List.length_cons] at h2 ⊢; omega
   have hne : (x :: r).take ro ≠ [] := fun h => by rw [h] at hlen; simp at hlen; omega
   have b3 := b3 hne
   refine ⟨?_, ?_, ?_, a3⟩
   ·rw [unL, un_mkR, b1, a1, h7]
   ·rw [cnL]
    have : cn (mkR (t : Int) (g ((x :: r).take ro))) = 1 + cnL (g ((x :: r).take ro)) := by rw [mkR, cn]
    rw [this]
    rw [List.length_drop] at a2
    simp only [List.length_cons] at *
    omega
   ·rw [mkR, okI]
    refine ⟨by omega, .inr ⟨rfl, ?_, b4⟩⟩
    unfold repE
    rw [if_neg (by simp [noAim]), if_neg (by simp [inI]; omega), if_neg fun h => b3 (List.eq_nil_of_length_eq_zero h)]
theorem fold_spec : ∀ (d : Nat) (nest : Int), nest + d = 3 → ∀ l : List It, (∀ x ∈ l, leafI x) → unL (foldI d l) = l ∧ cnL (foldI d l) ≤ l.length ∧ okIL nest (foldI d l)
 | 0, nest, hn, l, hl => by
  refine ⟨unL_leaf hl, ?_, ?_⟩
  ·show cnL l ≤ _
   clear hn
   induction l with
   | nil => simp [cnL]
   | cons x r ih =>
    have hx := hl x (by simp)
    have := ih fun y hy => hl y (by simp [hy])
    rw [cnL]
    have : cn x = 1 := by
     have := leaf_kids hx
     cases x with
     | mk k nm sec way ms pct lo hi tm its => rw [cn, show its = [] from this]; rfl
    simp only [List.length_cons]; omega
  ·exact okIL_iff.2 fun x hx => by
    have := hl x hx
    cases x with
    | mk k nm sec way ms pct lo hi tm its => rw [okI]; exact ⟨by omega, .inl this⟩
 | d + 1, nest, hn, l, hl => foldK_spec (by omega) (fun l hl => by
   obtain ⟨a, b, c⟩ := fold_spec d (nest + 1) (by omega) l hl
   exact ⟨a, b, fun h => foldI_ne h, c⟩) l.length l (Nat.le_refl _) hl
end Go.Proofs.YtpnacmnpahjpoaaGreatDoor

namespace Go.Proofs.YtpnacmnpahjpoaaGreatDoor
open Go Go.AM
set_option maxRecDepth 100000
set_option maxHeartbeats 4000000
variable {N : Nat}
theorem G80x7_eq (hN : maxLen < N) {nl : Bool} {l : List D} (hok : okN 2 l) (hl : l.length ≤ 1000) {n w : Nat} (hn : n ≤ l.length) (hw : w ≤ 98) : G80x0x7 N nl l (n : Int) (w : Int) = some (decide (sameP (its l) n w)) := by
 have hmm : maxLen = 9223372036854775807 := rfl
 have b1 : (w + 1) * n ≤ 99 * 1000 := Nat.mul_le_mul (by omega) (by omega)
 have b2 : w * n ≤ (w + 1) * n := Nat.mul_le_mul_right n (by omega)
 have c1 : IntKind.wrap .i64 ((w : Int) + 1) = ((w + 1 : Nat) : Int) := by rw [wrapI (by omega) (by omega)]; rfl
 have c2 : IntKind.wrap .i64 (((w + 1 : Nat) : Int) * (n : Int)) = (((w + 1) * n : Nat) : Int) := by rw [← Int.natCast_mul, wrapI (by omega) (by omega)]
 have c3 : IntKind.wrap .i64 ((w : Int) * (n : Int)) = ((w * n : Nat) : Int) := by rw [← Int.natCast_mul, wrapI (by omega) (by omega)]
 unfold G80x0x7 F80x0x7
 simp only [c1, c2, c3, bnd_eq]
 rw [decide_eq_true (show (w : Int) < 99 by omega)]
 by_cases h : (w + 1) * n ≤ l.length
 ·rw [decide_eq_true (show (((w + 1) * n : Nat) : Int) ≤ (l.length : Int) by omega), decide_eq_true (show (0 : Int) ≤ (n : Int) by omega), decide_eq_true (show (n : Int) ≤ (l.length : Int) by omega), decide_eq_true (show (0 : Int) ≤ ((w * n : Nat) : Int) by omega), decide_eq_true (show ((w * n : Nat) : Int) ≤ (((w + 1) * n : Nat) : Int) by omega)]
  simp only [Bool.and_true, _root_.cond_true, Int.toNat_natCast, List.drop_zero]
  rw [R36_eq hN N 2 nl nl _ _ (okN_sub hok (by rw [List.length_take]; omega) fun x hx => List.mem_of_mem_take hx) (okN_sub hok (by rw [List.length_drop, List.length_take]; omega) fun x hx => List.mem_of_mem_take (List.mem_of_mem_drop hx)) (by omega)]
  show some _ = some _
  congr 1
  rw [Option.getD_some, decide_eq_decide]
  unfold sameP
  rw [its_length]
  simp only [its, List.map_take, List.map_drop, h, true_and]
 ·rw [decide_eq_false (show ¬ (((w + 1) * n : Nat) : Int) ≤ (l.length : Int) by omega), decide_eq_false (show ¬ sameP (its l) n w from fun hh => h (by have := hh.1; rwa [its_length] at this))]
  rfl
theorem L80_eq (hN : maxLen < N) {nl : Bool} {l : List D} (hok : okN 2 l) (hl : l.length ≤ 1000) {n : Nat} (hn : n ≤ l.length) : ∀ (k w m : Nat), w + k = 99 → k < m → L80x0x6 N nl l (n : Int) m (w : Int) (fun p => some p) = some ((repsF (its l) n k w : Nat) : Int)
 | k, w, 0, _, h => by omega
 | 0, w, m + 1, hw, _ => by
  have : w = 99 := by omega
  subst this
  rfl
 | k + 1, w, m + 1, hw, hk => by
  show S80x0x6 N nl l (n : Int) (w : Int) _ _ = _
  unfold S80x0x6
  rw [G80x7_eq hN hok hl hn (by omega), repsF]
  by_cases h : sameP (its l) n w
  ·rw [decide_eq_true h, if_pos h, show IntKind.wrap .i64 ((w : Int) + 1) = ((w + 1 : Nat) : Int) by rw [wrapI (by omega) (by omega)]; rfl]
   exact L80_eq hN hok hl hn k (w + 1) m (by omega) (by omega)
  ·rw [decide_eq_false h, if_neg h]
   rfl
theorem G80x0_eq (hN : maxLen < N) {nl : Bool} {l : List D} (hok : okN 2 l) (hl : l.length ≤ 1000) {n : Nat} (hn : n ≤ l.length) : G80x0 N nl l (n : Int) = some ((reps (its l) n : Nat) : Int) := by
 have hmm : maxLen = 9223372036854775807 := rfl
 unfold G80x0 F80x0 G80x0x6
 rw [show (1 : Int) = ((1 : Nat) : Int) from rfl, L80_eq hN hok hl hn 98 1 N rfl (by omega)]
 rfl
theorem L54b_eq (hN : maxLen < N) {rc : Rc54x1} {nl : Bool} {l : List D} (hok : okN 2 l) (hl : l.length ≤ 1000) : ∀ (k n m : Nat) (s : Nat × Nat × Nat), 1 ≤ n → n + k = l.length / 2 + 1 → k < m → s.1 ≤ 1000 →
  L54x1x21 N rc nl l m (s.1 : Int) (s.2.1 : Int) (s.2.2 : Int) (n : Int) (fun p => some p) = some (((bestF (its l) k n s).1 : Int), ((bestF (its l) k n s).2.2 : Int), ((bestF (its l) k n s).2.1 : Int))
 | k, n, 0, _, _, _, h, _ => by omega
 | 0, n, m + 1, s, h1, hk, _, _ => by
  show S54x1x21 N rc nl l (s.1 : Int) (s.2.1 : Int) (s.2.2 : Int) (n : Int) _ _ = _
  unfold S54x1x21
  rw [wrapI (by omega) (by omega), decide_eq_false (show ¬ 2 * (n : Int) ≤ (l.length : Int) by omega)]
  rfl
 | k + 1, n, m + 1, s, h1, hk, hm, hs => by
  have hn : n ≤ l.length := by omega
  obtain ⟨a1, a2, a3, _⟩ := reps_spec (l := its l) (n := n) (by rw [its_length]; exact hn)
  rw [its_length, Nat.mul_comm] at a3
  have ih := L54b_eq hN (rc := rc) (nl := nl) hok hl k (n + 1) m (stepB (its l) s n) (by omega) (by omega) (by omega) (by
   unfold stepB
   by_cases c : n * reps (its l) n - n - 1 > s.1
   ·rw [if_pos c]; show n * reps (its l) n - n - 1 ≤ 1000; omega
   ·rw [if_neg c]; exact hs)
  show S54x1x21 N rc nl l (s.1 : Int) (s.2.1 : Int) (s.2.2 : Int) (n : Int) _ _ = _
  unfold S54x1x21
  have c1 : IntKind.wrap .i64 ((n : Int) * ((reps (its l) n : Nat) : Int)) = ((n * reps (its l) n : Nat) : Int) := by rw [← Int.natCast_mul, wrapI (by omega) (by omega)]
  have c2 : IntKind.wrap .i64 (((n * reps (its l) n : Nat) : Int) - (n : Int)) = ((n * reps (its l) n : Nat) : Int) - (n : Int) := wrapI (by omega) (by omega)
  have c3 : IntKind.wrap .i64 (((n * reps (its l) n : Nat) : Int) - (n : Int) - 1) = ((n * reps (its l) n : Nat) : Int) - (n : Int) - 1 := wrapI (by omega) (by omega)
  have c4 : IntKind.wrap .i64 ((n : Int) + 1) = ((n + 1 : Nat) : Int) := by rw [wrapI (by omega) (by omega)]; rfl
  rw [wrapI (x := 2 * (n : Int)) (by omega) (by omega), decide_eq_true (show 2 * (n : Int) ≤ (l.length : Int) by omega)]
  simp only [_root_.cond_true, bnd_eq, G80x0_eq hN hok hl hn, Option.isSome_some, getD_some, c1, c2, c3, c4]
  unfold V54x1x35 F54x1x35
  rw [bestF]
  by_cases c : n * reps (its l) n - n - 1 > s.1
  ·rw [decide_eq_true (show ((n * reps (its l) n : Nat) : Int) - (n : Int) - 1 > (s.1 : Int) by omega)]
   simp only [_root_.cond_true, bnd_eq, c1, c2, c3]
   have e : stepB (its l) s n = (n * reps (its l) n - n - 1, n, reps (its l) n) := by unfold stepB; rw [if_pos c]
   rw [e] at ih ⊢
   rw [← ih, show ((n * reps (its l) n : Nat) : Int) - (n : Int) - 1 = ((n * reps (its l) n - n - 1 : Nat) : Int) by omega]
  ·rw [decide_eq_false (show ¬ ((n * reps (its l) n : Nat) : Int) - (n : Int) - 1 > (s.1 : Int) by omega)]
   have e : stepB (its l) s n = s := by unfold stepB; rw [if_neg c]
   rw [e] at ih ⊢
   exact ih
end Go.Proofs.YtpnacmnpahjpoaaGreatDoor

namespace Go.Proofs.YtpnacmnpahjpoaaGreatDoor
open Go Go.AM
set_option maxRecDepth 100000
set_option maxHeartbeats 4000000
variable {N : Nat}
def flatD (l : List D) : Prop := ∀ x ∈ l, (x.cell 1).toS.length ≤ maxLen ∧ (x.cell 9).items = []
theorem okN_nil (m : Nat) : okN (m + 1) [] := ⟨Nat.zero_le _, fun x hx => by simp at hx⟩
theorem okN_flat {l : List D} {m : Nat} (h : flatD l) (hl : l.length ≤ 1000) : okN (m + 2) l := by
 have hmm : maxLen = 9223372036854775807 := rfl
 exact ⟨by omega, fun x hx => ⟨(h x hx).1, by rw [(h x hx).2]; exact okN_nil m⟩⟩
theorem okN_cons {m : Nat} {x : D} {l : List D} (h1 : (x.cell 1).toS.length ≤ maxLen) (h2 : okN m (x.cell 9).items) (h : okN (m + 1) l) (hl : l.length ≤ 1000) : okN (m + 1) (x :: l) := by
 have hmm : maxLen = 9223372036854775807 := rfl
 refine ⟨by rw [List.length_cons]; omega, fun y hy => ?_⟩
 rcases List.mem_cons.1 hy with rfl | hy
 ·exact ⟨h1, h2⟩
 ·exact h.2 y hy
theorem bestF_zero {l : List It} : ∀ (k n : Nat) (s : Nat × Nat × Nat), (bestF l k n s).1 = 0 → bestF l k n s = s
 | 0, _, _, _ => rfl
 | k + 1, n, s, h => by
  rw [bestF] at h ⊢
  have h1 := bestF_zero k (n + 1) _ h
  rw [h1] at h ⊢
  unfold stepB at h ⊢
  by_cases c : n * reps l n - n - 1 > s.1
  ·rw [if_pos c] at h
   have : n * reps l n - n - 1 = 0 := h
   omega
  ·rw [if_neg c]
theorem its_take (l : List D) (n : Nat) : its (l.take n) = (its l).take n := List.map_take ..
theorem its_drop (l : List D) (n : Nat) : its (l.drop n) = (its l).drop n := List.map_drop ..
def mkD (t : Int) (b : Bool) (q : List D) : D := .a [.i 3, .s [], .i 0, .i 0, .i 0, .b false, .i 0, .i 0, .i t, .l b q]
theorem itOf_mkD (t : Int) (b : Bool) (q : List D) : itOf (mkD t b q) = mkR t (its q) := by rw [itOf_eq]; rfl
def FoldOk (d : Nat) (l : List D) (e : List It) (b : Bool) (r : List D) : Prop := its r = e ∧ okN (d + 3) r ∧ r.length ≤ l.length ∧ (b = true → r = [])
theorem flat_drop {l : List D} (h : flatD l) (n : Nat) : flatD (l.drop n) := fun x hx => h x (List.mem_of_mem_drop hx)
theorem flat_take {l : List D} (h : flatD l) (n : Nat) : flatD (l.take n) := fun x hx => h x (List.mem_of_mem_take hx)
theorem room_ok {a : Nat} (h : a < 1000) : (decide ((a + 1) * 104 ≤ room) && decide (a + 1 ≤ strMax)) = true := by
 rw [decide_eq_true (show (a + 1) * 104 ≤ room by unfold room; omega), decide_eq_true (show a + 1 ≤ strMax by unfold strMax; omega)]
 rfl
def jn {A : Type} : Sum A A → A
 | .inl a => a
 | .inr a => a
theorem S54_in {rc : Rc54x1} {nest : Int} {nl : Bool} {l : List D} {flag : Bool} {acc : List D} {kr : List D → Bool → List D → Option (Bool × List D)} {k0 : Bool × List D → Option (Bool × List D)} {b ro t : Int} {z : Sum (List D) (List D)} {y2 : Nat} (hl : 0 < l.length)
  (e1 : G54x1x21 N rc nl l 0 1 1 1 = some (b, t, ro)) (e2 : G54x1x42041 N rc nl l nest ro t (decide (b > 0)) acc = some z) (e3 : IntKind.wrap .i64 (ro * t) = (y2 : Int)) (h2 : y2 ≤ l.length) :
  S54x1x12 N rc nl nest l flag acc kr k0 = kr (l.drop y2) false (jn z) := by
 have key : ∀ a : List D, (bif (((decide (0 ≤ (y2 : Int))) && (decide ((y2 : Int) ≤ (l.length : Int)))) && (decide ((l.length : Int) ≤ (l.length : Int)))) then kr ((l.take (l.length : Int).toNat).drop (y2 : Int).toNat) false a else none) = kr (l.drop y2) false a := by
  intro a
  rw [decide_eq_true (show (0 : Int) ≤ (y2 : Int) by omega), decide_eq_true (show (y2 : Int) ≤ (l.length : Int) by omega), decide_eq_true (Int.le_refl _), Int.toNat_natCast, Int.toNat_natCast, List.take_of_length_le (Nat.le_refl _)]
  rfl
 unfold S54x1x12
 rw [e1, decide_eq_true (show (l.length : Int) > 0 by omega), bnd_eq]
 simp only [Option.isSome_some, _root_.cond_true, getD_some]
 rw [e2, bnd_eq]
 cases z with
 | inl a =>
  simp only [inlB_inl, inlV_inl, _root_.cond_true]
  rw [e3]
  exact key a
 | inr a =>
  simp only [inlB_inr, inrQ_inr, Option.isSome_some, _root_.cond_true, _root_.cond_false, getD_some]
  rw [e3]
  exact key a
theorem wrap_nat {n : Nat} (h : n ≤ 1000000) : IntKind.wrap .i64 (n : Int) = (n : Int) := wrapI (by omega) (by omega)
theorem L54_eq (hN : maxLen < N) {rc : Rc54x1} {nest : Int} {d : Nat} {nl : Bool} (hd : nest + (d + 1) = 3) (hd0 : d ≤ 3)
  (hrc : ∀ l : List D, flatD l → l.length ≤ 1000 → (nl = true → l = []) → ∃ b r, rc nl l (nest + 1) = some (b, r) ∧ FoldOk d l (foldI d (its l)) b r) :
  ∀ (n m : Nat) (l : List D) (flag : Bool) (acc : List D), l.length ≤ n → n < m → flatD l → l.length ≤ 1000 → (nl = true → l = []) → acc.length + l.length ≤ 1000 →
   ∃ r, L54x1x12 N rc nl nest m l flag acc (fun p => some p) = some (flag && r.isEmpty, acc ++ r) ∧ its r = foldK (foldI d) n (its l) ∧ okN (d + 4) r ∧ r.length ≤ l.length
 | n, 0, _, _, _, _, h, _, _, _, _ => by omega
 | n, m + 1, [], flag, acc, _, _, _, _, _, _ => ⟨[], by
   show S54x1x12 N rc nl nest [] flag acc _ _ = _
   simp [S54x1x12], by cases n <;> rfl, okN_nil _, Nat.le_refl _⟩
 | 0, _ + 1, _ :: _, _, _, h, _, _, _, _, _ => by simp at h
 | n + 1, m + 1, x :: l, flag, acc, h0, hm, hf, hl, hnl, ha => by
  have hmm : maxLen = 9223372036854775807 := rfl
  show ∃ r, S54x1x12 N rc nl nest (x :: l) flag acc (fun w1 w3 w4 => L54x1x12 N rc nl nest m w1 w3 w4 _) _ = _ ∧ _
  have hx := hf x (by simp)
  have eb : G54x1x21 N rc nl (x :: l) 0 1 1 1 = some (((bestOf (its (x :: l)) (0, 1, 1)).1 : Int), ((bestOf (its (x :: l)) (0, 1, 1)).2.2 : Int), ((bestOf (its (x :: l)) (0, 1, 1)).2.1 : Int)) := by
   unfold G54x1x21 bestOf
   rw [its_length]
   exact L54b_eq hN (okN_flat (m := 0) hf hl) hl ((x :: l).length / 2) 1 N (0, 1, 1) (Nat.le_refl _) (by omega) (by omega) (by simp)
  simp only [List.length_cons] at h0 ha hl
  rw [show its (x :: l) = itOf x :: its l from rfl] at eb ⊢
  rw [foldK]
  by_cases c : (bestOf (itOf x :: its l) (0, 1, 1)).1 = 0
  ·have e := bestF_zero _ _ _ c
   have e : bestOf (itOf x :: its l) (0, 1, 1) = (0, 1, 1) := e
   rw [if_pos c]
   rw [e] at eb
   have eg : G54x1x42041 N rc nl (x :: l) nest ((1 : Nat) : Int) ((1 : Nat) : Int) (decide (((0 : Nat) : Int) > 0)) acc = some (.inr (acc ++ [cpD x])) := by
    unfold G54x1x42041 F54x1x42041
    rw [decide_eq_false (show ¬ ((0 : Nat) : Int) > 0 by omega), inB_of (by omega) (by simp only [List.length_cons]; omega), room_ok (by omega)]
    rfl
   obtain ⟨r, r1, r2, r3, r4⟩ := L54_eq hN hd hd0 hrc n m l false (acc ++ [cpD x]) (by omega) (by omega) (fun y hy => hf y (by simp [hy])) (by omega) (fun h => by have := hnl h; simp at this) (by simp only [List.length_append, List.length_cons, List.length_nil]; omega)
   refine ⟨cpD x :: r, ?_, ?_, okN_cons hx.1 (by show okN (d + 3) (x.cell 9).items; rw [hx.2]; exact okN_nil _) r3 (by omega), by simp only [List.length_cons]; omega⟩
   ·refine (S54_in (y2 := 1) (by simp) eb eg rfl (by simp)).trans (Eq.trans r1 ?_)
    simp
   ·show itOf (cpD x) :: its r = _
    rw [itOf_cpD, r2]
  ·rw [if_neg c]
   obtain ⟨b, ro, t, e, h1, h2, h3, h4, h5, h6, h7⟩ := best_facts c
   have hb0 : b ≠ 0 := by rw [e] at c; exact c
   rw [e] at eb ⊢
   simp only [List.length_cons, its_length] at h2 h5
   have hnl' : nl = false := by
    cases nl with
    | false => rfl
    | true => have := hnl rfl; simp at this
   obtain ⟨b', q, q1, q2, q3, q4, q5⟩ := hrc ((x :: l).take ro) (flat_take hf ro) (by rw [List.length_take]; omega) (fun h => by rw [hnl'] at h; cases h)
   have eg : G54x1x42041 N rc nl (x :: l) nest (ro : Int) (t : Int) (decide ((b : Int) > 0)) acc = some (.inl (acc ++ [mkD t b' q])) := by
    unfold G54x1x42041 F54x1x42041
    rw [decide_eq_true (show (b : Int) > 0 by omega), decide_eq_true (show (0 : Int) ≤ (ro : Int) by omega), decide_eq_true (show (ro : Int) ≤ ((x :: l).length : Int) by simp only [List.length_cons]; omega), room_ok (by omega)]
    rw [wrapI (x := nest + 1) (by omega) (by omega)]
    simp only [Bool.and_true, _root_.cond_true, Int.toNat_natCast, List.drop_zero, q1, bnd_eq, Option.isSome_some, getD_some]
    rfl
   have hdl : ((x :: l).drop (ro * t)).length ≤ n := by rw [List.length_drop]; simp only [List.length_cons]; omega
   obtain ⟨r, r1, r2, r3, r4⟩ := L54_eq hN hd hd0 hrc n m ((x :: l).drop (ro * t)) false (acc ++ [mkD t b' q]) hdl (by omega) (flat_drop hf _) (by rw [List.length_drop]; simp only [List.length_cons]; omega) (fun h => by rw [hnl'] at h; cases h) (by rw [List.length_drop]; simp only [List.length_append, List.length_cons, List.length_nil]; omega)
   rw [List.length_drop] at r4
   simp only [List.length_cons] at r4
   refine ⟨mkD t b' q :: r, ?_, ?_, okN_cons (Nat.zero_le _) (show okN (d + 3) q from q3) r3 (by omega), by simp only [List.length_cons]; omega⟩
   ·refine (S54_in (y2 := ro * t) (by simp) eb eg (show IntKind.wrap .i64 ((ro : Int) * (t : Int)) = ((ro * t : Nat) : Int) by rw [← Int.natCast_mul]; exact wrap_nat (by omega)) (by simp only [List.length_cons]; omega)).trans (Eq.trans r1 ?_)
    simp
   ·show itOf (mkD t b' q) :: its r = _
    rw [itOf_mkD, q2, r2, its_take, its_drop]
    rfl
theorem R54_eq (hN : maxLen < N) : ∀ (d m : Nat) (nl : Bool) (l : List D) (nest : Int), nest + d = 3 → d ≤ 3 → d < m → flatD l → l.length ≤ 1000 → (nl = true → l = []) → ∃ b r, R54x1 N m nl l nest = some (b, r) ∧ FoldOk d l (foldI d (its l)) b r
 | _, 0, _, _, _, _, _, h, _, _, _ => by omega
 | 0, m + 1, nl, l, nest, hn, _, _, hf, hl, hnl => by
  show ∃ b r, G54x1 N (R54x1 N m) nl l nest = _ ∧ _
  have : nest = 3 := by omega
  subst this
  cases nl with
  | true =>
   have := hnl rfl
   subst this
   exact ⟨true, [], rfl, rfl, okN_nil _, Nat.le_refl _, fun _ => rfl⟩
  | false =>
   refine ⟨l.isEmpty && false, l, ?_, rfl, okN_flat hf hl, Nat.le_refl _, fun h => by simp at h⟩
   have e : G79x0 N false l = some (.inr (l.isEmpty && false)) := by
    unfold G79x0 F79x0
    rw [decide_eq_true (show (0 + l.length) * 104 ≤ room by unfold room; omega), decide_eq_true (show 0 + l.length ≤ strMax by unfold strMax; omega)]
    rfl
   unfold G54x1 F54x1 G54x1x7 F54x1x7
   rw [e]
   rfl
 | d + 1, m + 1, nl, l, nest, hn, hd3, hm, hf, hl, hnl => by
  have hmm : maxLen = 9223372036854775807 := rfl
  show ∃ b r, G54x1 N (R54x1 N m) nl l nest = _ ∧ _
  obtain ⟨r, r1, r2, r3, r4⟩ := L54_eq hN (rc := R54x1 N m) (nest := nest) (d := d) (nl := nl) (by omega) (by omega) (fun l' hf' hl' hnl' => R54_eq hN d m nl l' (nest + 1) (by omega) (by omega) (by omega) hf' hl' hnl') l.length N l true [] (Nat.le_refl _) (by omega) hf hl hnl (by simpa using hl)
  refine ⟨r.isEmpty, r, ?_, by rw [r2, foldI, its_length], r3, r4, fun h => by simpa using h⟩
  unfold G54x1 F54x1 G54x1x12
  rw [show (nest == 3) = false by simp; omega, r1]
  simp [bnd_eq]
end Go.Proofs.YtpnacmnpahjpoaaGreatDoor

namespace Go.Proofs.YtpnacmnpahjpoaaGreatDoor
open Go Go.AM
set_option maxRecDepth 100000
set_option maxHeartbeats 4000000
variable {N : Nat}
mutual
theorem ck_cnt : ∀ (x : It) (nest many : Int), (ck x nest many).1 = 0 → (ck x nest many).2 = many + cn x
 | .mk k nm sec way ms pct lo hi tm its, nest, many => by
  intro h
  have hok := ck_ok _ _ _ h
  rw [ck] at h ⊢
  rw [cn]
  by_cases h1 : many + 1 > 200 ∨ nest > 3
  ·rw [if_pos h1] at h; cases h
  rw [if_neg h1] at h ⊢
  by_cases h2 : k = 1 ∨ k = 2
  ·rw [if_pos h2] at h ⊢
   have : its = [] := leaf_kids (x := .mk k nm sec way ms pct lo hi tm its) ⟨h2, h⟩
   subst this
   simp [cnL]
  rw [if_neg h2] at h ⊢
  by_cases h3 : k = 3
  ·rw [if_pos h3] at h ⊢
   by_cases h4 : repE nm sec way ms pct lo hi tm its.length = 0
   ·rw [if_pos h4] at h ⊢
    rw [ckL_cnt its (nest + 1) (many + 1) h]
    omega
   ·rw [if_neg h4] at h; exact absurd h h4
  ·rw [if_neg h3] at h; cases h
theorem ckL_cnt : ∀ (l : List It) (nest many : Int), (ckL l nest many).1 = 0 → (ckL l nest many).2 = many + cnL l
 | [], _, _ => fun _ => by simp [ckL, cnL]
 | x :: r, nest, many => by
  intro h
  rw [ckL] at h ⊢
  rw [cnL]
  by_cases h1 : (ck x nest many).1 = 0
  ·rw [if_pos h1] at h ⊢
   rw [ckL_cnt r nest _ h, ck_cnt x nest many h1]
   omega
  ·rw [if_neg h1] at h; exact absurd h h1
end
def pw (nest : Int) : Int := if nest = 0 then 970299 else if nest = 1 then 9801 else if nest = 2 then 99 else 1
theorem pw_step {nest : Int} (h0 : 0 ≤ nest) (h1 : nest ≤ 2) : pw nest = 99 * pw (nest + 1) := by
 have : nest = 0 ∨ nest = 1 ∨ nest = 2 := by omega
 rcases this with rfl | rfl | rfl <;> rfl
theorem pw_pos (nest : Int) : 1 ≤ pw nest ∧ pw nest ≤ 970299 := by
 unfold pw
 split
 ·omega
 split
 ·omega
 split <;> omega
mutual
theorem bl_bound : ∀ (x : It) (nest : Int), 0 ≤ nest → okI nest x → bl x ≤ cn x * pw nest
 | .mk k nm sec way ms pct lo hi tm its, nest => by
  intro h0 h
  obtain ⟨h3, h1 | ⟨h1, h2, h4, h5, h6⟩⟩ := okI_cases h
  ·have hk : k ≠ 3 := by have : k = 1 ∨ k = 2 := h1.1; omega
   have : its = [] := leaf_kids h1
   subst this
   rw [bl, if_neg hk, cn]
   have := (pw_pos nest).1
   simp only [cnL]
   omega
  ·have hk : k = 3 := h1
   have h2 : 1 ≤ tm := h2
   have h4 : tm ≤ 99 := h4
   have h6 : okIL (nest + 1) its := h6
   have hn : nest + 1 ≤ 3 := by
    cases its with
    | nil => exact absurd rfl h5
    | cons y r => exact (okI_cases h6.1).1
   have ih := blL_bound its (nest + 1) (by omega) h6
   have hb := (unL_ok _ _ h6).2.1
   have hc := cnL_nn its
   rw [bl, if_pos hk, cn, pw_step h0 (by omega)]
   have e1 : tm * blL its ≤ 99 * blL its := Int.mul_le_mul_of_nonneg_right h4 (by omega)
   have e2 : (1 + cnL its) * (99 * pw (nest + 1)) = 99 * pw (nest + 1) + 99 * (cnL its * pw (nest + 1)) := by grind
   have := (pw_pos (nest + 1)).1
   omega
theorem blL_bound : ∀ (l : List It) (nest : Int), 0 ≤ nest → okIL nest l → blL l ≤ cnL l * pw nest
 | [], _ => fun _ _ => by simp [blL, cnL]
 | x :: r, nest => by
  intro h0 h
  have h1 := bl_bound x nest h0 h.1
  have h2 := blL_bound r nest h0 h.2
  rw [blL, cnL, Int.add_mul]
  omega
end
theorem chk_facts {nm : List UInt8} {L : List It} (h : chkW nm L = 0) : nameB nm = true ∧ L ≠ [] ∧ okIL 0 L ∧ cnL L ≤ 200 ∧ blL L ≤ 1000 := by
 unfold chkW at h
 cases h1 : nameB nm with
 | false => rw [h1, if_pos rfl] at h; cases h
 | true =>
 rw [h1, if_neg (by simp)] at h
 by_cases h2 : L.length = 0
 ·rw [if_pos h2] at h; cases h
 rw [if_neg h2] at h
 by_cases h3 : (ckL L 0 0).1 = 0
 ·rw [if_pos h3] at h
  have h4 := ckL_ok L 0 0 h3
  have h5 := ckL_cnt L 0 0 h3
  have h6 := (ckL_many L 0 0 (by omega) h3).2
  have h7 := blL_bound L 0 (by omega) h4
  have h8 := (unL_ok _ _ h4).2.1
  have h9 : cnL L * pw 0 = cnL L * 970299 := rfl
  have hw : wr (blL L) = blL L := wr_of (by omega) (by omega)
  rw [hw] at h
  by_cases h10 : blL L > 1000
  ·rw [if_pos h10] at h; cases h
  ·exact ⟨rfl, fun e => h2 (by rw [e]; rfl), h4, by omega, by omega⟩
 ·rw [if_neg h3] at h; exact absurd h h3
theorem chk_of {nm : List UInt8} {L : List It} (h1 : nameB nm = true) (h2 : L ≠ []) (h3 : okIL 0 L) (h4 : cnL L ≤ 200) (h5 : blL L ≤ 1000) : chkW nm L = 0 := by
 have h8 := (unL_ok _ _ h3).2.1
 have hw : wr (blL L) = blL L := wr_of (by omega) (by omega)
 unfold chkW
 rw [h1, if_neg (by simp), if_neg fun e => h2 (List.eq_nil_of_length_eq_zero e), ckL_of L 0 0 h3 (by omega), if_pos rfl, hw, if_neg (by omega)]
theorem leaf_name {x : It} (h : leafI x) : ∀ {k nm sec way ms pct lo hi tm its}, x = .mk k nm sec way ms pct lo hi tm its → nm.length ≤ 60 := by
 rintro k nm sec way ms pct lo hi tm its rfl
 have h3 : stepE k nm sec way ms pct lo hi tm its.length = 0 := h.2
 unfold stepE at h3
 cases hn : nameB nm with
 | false => rw [hn] at h3; simp at h3
 | true =>
  unfold nameB at hn
  simp only [Bool.and_eq_true, decide_eq_true_eq] at hn
  exact hn.2.2
theorem flat_of {l : List D} (h : ∀ y ∈ its l, leafI y) : flatD l := by
 intro x hx
 have h1 := h (itOf x) (List.mem_map_of_mem hx)
 have hmm : maxLen = 9223372036854775807 := rfl
 refine ⟨?_, ?_⟩
 ·have := leaf_name h1 (itOf_eq x)
  omega
 ·have := leaf_kids h1
  rw [itOf_kids] at this
  unfold its at this
  exact List.map_eq_nil_iff.1 this
theorem unL_ne {L : List It} {nest : Int} (h : okIL nest L) (h2 : L ≠ []) : unL L ≠ [] := by
 intro e
 obtain ⟨a, b, _⟩ := unL_ok _ _ h
 rw [e] at a
 have : L.length ≠ 0 := fun q => h2 (List.eq_nil_of_length_eq_zero q)
 simp at a
 omega
noncomputable def plD (nm : List UInt8) (l : List D) : List UInt8 × Bool × List D × Int :=
 if chkW nm (its l) ≠ 0 then ([], true, [], chkW nm (its l)) else if (pcL l).length > 200 then ([], true, [], 3) else (nm, (pcL l).isEmpty, pcL l, 0)
theorem G25x0_eq (hN : maxLen < N) {d : Nat} {nm : List UInt8} {nl : Bool} {l : List D} (hnm : nm.length ≤ maxLen) (hok : okN d l) (hd : d ≤ N) : G25x0 N nm nl l = some (plD nm l) := by
 unfold G25x0 F25x0 plD
 rw [G10x0_eq hN hnm hok hd]
 simp only [bnd_eq, Option.isSome_some, _root_.cond_true, getD_some]
 by_cases h : chkW nm (its l) = 0
 ·obtain ⟨_, _, h3, _, h5⟩ := chk_facts h
  rw [show (chkW nm (its l) != 0) = false by simp [h], if_neg (by simp [h]), R40_eq hN N d nl l 0 hok h3 h5 hd]
  simp only [Option.isSome_some, _root_.cond_true, _root_.cond_false, getD_some]
  by_cases c : (pcL l).length > 200
  ·rw [if_pos c, decide_eq_true (by omega)]; rfl
  ·rw [if_neg c, decide_eq_false (by omega)]; rfl
 ·rw [show (chkW nm (its l) != 0) = true by simp [h], if_pos h]
  rfl
theorem pl_cases (nm : List UInt8) (l : List D) : (∃ e, e ≠ 0 ∧ plD nm l = ([], true, [], e)) ∨ (plD nm l = (nm, (pcL l).isEmpty, pcL l, 0) ∧ nameB nm = true ∧ its l ≠ [] ∧ okIL 0 (its l) ∧ (pcL l).length ≤ 200 ∧ flatD (pcL l) ∧ (∀ x ∈ unL (its l), leafI x) ∧ pcL l ≠ []) := by
 unfold plD
 by_cases h : chkW nm (its l) = 0
 ·rw [if_neg (by simp [h])]
  by_cases c : (pcL l).length > 200
  ·rw [if_pos c]; exact .inl ⟨3, by omega, rfl⟩
  ·rw [if_neg c]
   obtain ⟨h1, h2, h3, h4, h5⟩ := chk_facts h
   have h6 := (unL_ok _ _ h3).2.2
   refine .inr ⟨rfl, h1, h2, h3, by omega, flat_of (by rw [pcL_its]; exact h6), h6, fun e => ?_⟩
   have := unL_ne h3 h2
   rw [← pcL_its, e] at this
   exact this rfl
 ·rw [if_pos h]; exact .inl ⟨_, h, rfl⟩
theorem G27x0_eq (hN : maxLen < N) {d : Nat} {nm : List UInt8} {nl : Bool} {l : List D} (hnm : nm.length ≤ maxLen) (hok : okN d l) (hd : d ≤ N) :
  (∃ e, e ≠ 0 ∧ plD nm l = ([], true, [], e) ∧ G27x0 N nm nl l = some ([], true, [], e)) ∨ (plD nm l = (nm, (pcL l).isEmpty, pcL l, 0) ∧ ∃ b r, G27x0 N nm nl l = some (nm, b, r, 0) ∧ FoldOk 3 (pcL l) (foldI 3 (unL (its l))) b r) := by
 have hmm : maxLen = 9223372036854775807 := rfl
 unfold G27x0 F27x0
 rw [G25x0_eq hN hnm hok hd]
 simp only [bnd_eq, Option.isSome_some, _root_.cond_true, getD_some]
 rcases pl_cases nm l with ⟨e, he, h⟩ | ⟨h, h1, h2, h3, h4, h5, h6, h7⟩
 ·left
  refine ⟨e, he, h, ?_⟩
  rw [h]
  simp only
  rw [show (e != 0) = true by simp [he]]
  rfl
 ·right
  obtain ⟨b, r, hr, hf⟩ := R54_eq hN 3 N (pcL l).isEmpty (pcL l) 0 (by omega) (by omega) (by omega) h5 (by omega) (fun e => by simpa using e)
  rw [pcL_its] at hf
  refine ⟨h, b, r, ?_, hf⟩
  rw [h]
  simp only [hr, Option.isSome_some, _root_.cond_true, getD_some]
  rfl
end Go.Proofs.YtpnacmnpahjpoaaGreatDoor

namespace Go.Proofs.YtpnacmnpahjpoaaGreatDoor
open Go Go.AM
set_option maxRecDepth 100000
set_option maxHeartbeats 4000000
variable {N : Nat}
end Go.Proofs.YtpnacmnpahjpoaaGreatDoor

namespace Go.Proofs.YtpnacmnpahjpoaaGreatDoor
open Go Go.AM
set_option maxRecDepth 100000
set_option maxHeartbeats 4000000
variable {N : Nat}
theorem wrapU {x : Int} (h0 : 0 ≤ x) (h1 : x ≤ 18446744073709551615) : IntKind.wrap .u64 x = x := by
 rw [IntKind.wrap_u64]; omega
theorem and32 {x : Int} (h0 : 0 ≤ x) (h1 : x < 4294967296) : (bitsV .and .u64 x 4294967295).getD 0 = x := by
 obtain ⟨n, rfl⟩ : ∃ n : Nat, x = n := ⟨x.toNat, by omega⟩
 have hn : n < 2 ^ 32 := by omega
 have e : ((BitVec.ofInt 64 (n : Int)) &&& (BitVec.ofInt 64 4294967295)).toNat = n := by
  rw [BitVec.toNat_and, BitVec.ofInt_natCast, BitVec.toNat_ofNat, Nat.mod_eq_of_lt (by omega), show (BitVec.ofInt 64 4294967295).toNat = 2 ^ 32 - 1 from rfl, Nat.and_two_pow_sub_one_eq_mod, Nat.mod_eq_of_lt hn]
 show IntKind.wrap .u64 (((BitVec.ofInt 64 (n : Int)) &&& (BitVec.ofInt 64 4294967295)).toNat : Int) = _
 rw [e]
 exact wrapU (by omega) (by omega)
theorem fdiv0 {x : Int} (h0 : 0 ≤ x) (h1 : x < 4294967296) : x.fdiv (2 ^ 32) = 0 := by
 rw [Int.fdiv_eq_ediv_of_nonneg _ (by decide)]; omega
theorem mul_small {x y : Int} (hx0 : 0 ≤ x) (hx1 : x < 4294967296) (hy0 : 0 ≤ y) (hy1 : y < 4294967296) : V72x0 N x y = (0, x * y) ∧ 0 ≤ x * y ∧ x * y ≤ 18446744065119617025 := by
 have p0 : 0 ≤ x * y := Int.mul_nonneg hx0 hy0
 have p1 : x * y ≤ 4294967295 * 4294967295 := Int.mul_le_mul (by omega) (by omega) hy0 (by omega)
 have p1 : x * y ≤ 18446744065119617025 := p1
 refine ⟨?_, p0, p1⟩
 have d0 : 0 ≤ (x * y).fdiv (2 ^ 32) ∧ (x * y).fdiv (2 ^ 32) < 4294967296 := by
  rw [Int.fdiv_eq_ediv_of_nonneg _ (by decide)]; omega
 unfold V72x0 F72x0
 simp only [bnd_eq, and32 hx0 hx1, and32 hy0 hy1, fdiv0 hx0 hx1, fdiv0 hy0 hy1, Int.zero_mul, Int.mul_zero]
 rw [wrapU (x := x * y) p0 (by omega), wrapU (x := 0) (by omega) (by omega), show (0 : Int) + (x * y).fdiv (2 ^ 32) = (x * y).fdiv (2 ^ 32) from Int.zero_add _, wrapU (x := (x * y).fdiv (2 ^ 32)) d0.1 (by omega), and32 d0.1 d0.2, show (x * y).fdiv (2 ^ 32) + 0 = (x * y).fdiv (2 ^ 32) from Int.add_zero _, wrapU (x := (x * y).fdiv (2 ^ 32)) d0.1 (by omega), fdiv0 d0.1 d0.2]
 rfl
def nearQ (below : Bool) (p den : Int) : Int := p / den + (if p % den > 0 ∧ (2 * (p % den) > den ∨ 2 * (p % den) = den ∧ below = false) then 1 else 0)
def scl (a num den : Int) : Int := if a < 0 then -nearQ true (-a * num) den else nearQ false (a * num) den
theorem near_b {below : Bool} {p den : Int} (h0 : 0 ≤ p) (h1 : 0 < den) : 0 ≤ nearQ below p den ∧ nearQ below p den ≤ p := by
 have d0 := Int.ediv_nonneg h0 (Int.le_of_lt h1)
 have d1 := Int.mul_ediv_add_emod p den
 have d2 := Int.emod_nonneg p (show den ≠ 0 by omega)
 have d3 : p / den * 1 ≤ den * (p / den) := by rw [Int.mul_comm den]; exact Int.mul_le_mul_of_nonneg_left (by omega) d0
 unfold nearQ
 split <;> omega
theorem how4 (hN : maxLen < N) : G70x0 N 4 = some 3 := by
 have hmm : maxLen = 9223372036854775807 := rfl
 obtain ⟨M, rfl⟩ : ∃ M, N = M + 5 := ⟨N - 5, by omega⟩
 rfl
theorem div_small {p den : Int} (h0 : 0 ≤ p) (h2 : p ≤ 18446744065119617025) (h1 : 0 < den) : G73x0 N 0 p den = some (p / den, p % den) := by
 unfold G73x0 F73x0
 have hd := Int.ediv_nonneg h0 (Int.le_of_lt h1)
 have hl := Int.ediv_le_self den h0
 rw [show (den == 0) = false by simp; omega, decide_eq_false (show ¬ den ≤ 0 by omega), Int.tdiv_eq_ediv_of_nonneg h0, Int.tmod_eq_emod_of_nonneg h0, wrapU hd (by omega)]
 rfl
theorem cmp_half {r den : Int} (h0 : 0 ≤ r) (h1 : r < den) (h2 : den < 4294967296) : V74x0 N r (IntKind.wrap .u64 (IntKind.wrap .u64 den - r)) = if 2 * r < den then -1 else if 2 * r > den then 1 else 0 := by
 rw [wrapU (x := den) (by omega) (by omega), wrapU (x := den - r) (by omega) (by omega)]
 unfold V74x0 F74x0
 simp only [bnd_eq, V96x0, F96x0, bne_self_eq_false, _root_.cond_false]
 by_cases c1 : r < den - r
 ·rw [decide_eq_true c1, if_pos (by omega)]; rfl
 ·rw [decide_eq_false c1, if_neg (by omega)]
  by_cases c2 : r > den - r
  ·rw [decide_eq_true c2, if_pos (by omega)]; rfl
  ·rw [decide_eq_false c2, if_neg (by omega)]; rfl
theorem scale_p (hN : maxLen < N) {a num den : Int} (ha0 : -4294967296 < a) (ha1 : a < 4294967296) (hn0 : 0 ≤ num) (hn1 : num < 4294967296) (hd0 : 0 < den) (hd1 : den < 4294967296) (hp : (if a < 0 then -a else a) * num ≤ 1152921504606846976) :
  G46x0 N a num den 4 = some (scl a num den, 0) := by
 unfold G46x0 F46x0
 rw [how4 hN]
 simp only [bnd_eq, Option.isSome_some, _root_.cond_true, getD_some]
 rw [decide_eq_false (show ¬ (3 : Int) < 0 by omega), decide_eq_false (show ¬ den ≤ 0 by omega), decide_eq_false (show ¬ num < 0 by omega), wrapU hn0 (by omega), wrapU (x := den) (by omega) (by omega)]
 simp only [_root_.cond_false]
 have es : V46x0x32 N (IntKind.wrap .u64 a) (decide (a < 0)) = if a < 0 then -a else a := by
  unfold V46x0x32 F46x0x32
  by_cases c : a < 0
  ·rw [decide_eq_true c, if_pos c]
   show IntKind.wrap .u64 (0 - IntKind.wrap .u64 a) = -a
   rw [IntKind.wrap_u64, IntKind.wrap_u64]; omega
  ·rw [decide_eq_false c, if_neg c]
   exact wrapU (by omega) (by omega)
 rw [es]
 have hs : scl a num den = if a < 0 then -nearQ true ((if a < 0 then -a else a) * num) den else nearQ false ((if a < 0 then -a else a) * num) den := by
  unfold scl
  by_cases c : a < 0
  ·rw [if_pos c, if_pos c, if_pos c]
  ·rw [if_neg c, if_neg c, if_neg c]
 rw [hs]
 generalize hz : (if a < 0 then -a else a) = z at hp
 have hz0 : 0 ≤ z := by rw [← hz]; split <;> omega
 have hz1 : z < 4294967296 := by rw [← hz]; split <;> omega
 obtain ⟨m1, m2, m3⟩ := mul_small (N := N) hz0 hz1 hn0 hn1
 rw [m1]
 simp only
 rw [decide_eq_false (show ¬ (0 : Int) ≥ den by omega), div_small m2 m3 hd0]
 generalize hpp : z * num = p at *
 have e0 := Int.emod_nonneg p (show den ≠ 0 by omega)
 have e1 := Int.emod_lt_of_pos p hd0
 have e2 := Int.ediv_nonneg m2 (Int.le_of_lt hd0)
 have e3 := Int.ediv_le_self den m2
 simp only [Option.isSome_some, _root_.cond_true, _root_.cond_false, getD_some]
 have ea : G46x0x46 N den 3 (decide (a < 0)) (p / den) (p % den) = some (decide (p % den > 0 ∧ (2 * (p % den) > den ∨ 2 * (p % den) = den ∧ decide (a < 0) = false))) := by
  unfold G46x0x46 F46x0x46
  simp only [bnd_eq]
  rw [cmp_half e0 e1 hd1, decide_eq_true (show p / den ≤ 4611686018427387904 by omega)]
  unfold V93x0 F93x0
  by_cases c0 : p % den > 0
  ·rw [decide_eq_true c0]
   by_cases c1 : 2 * (p % den) < den
   ·rw [if_pos c1, decide_eq_false (show ¬ (p % den > 0 ∧ (2 * (p % den) > den ∨ 2 * (p % den) = den ∧ decide (a < 0) = false)) by omega)]
    rfl
   ·rw [if_neg c1]
    by_cases c2 : 2 * (p % den) > den
    ·rw [if_pos c2, decide_eq_true (show p % den > 0 ∧ (2 * (p % den) > den ∨ 2 * (p % den) = den ∧ decide (a < 0) = false) from ⟨c0, .inl c2⟩)]
     rfl
    ·rw [if_neg c2]
     have c3 : 2 * (p % den) = den := by omega
     cases ha : decide (a < 0) with
     | true =>
      rw [decide_eq_false (show ¬ (p % den > 0 ∧ (2 * (p % den) > den ∨ 2 * (p % den) = den ∧ true = false)) from fun h => by rcases h.2 with h | h; exact c2 h; cases h.2)]
      rfl
     | false =>
      rw [decide_eq_true (show p % den > 0 ∧ (2 * (p % den) > den ∨ 2 * (p % den) = den ∧ false = false) from ⟨c0, .inr ⟨c3, rfl⟩⟩)]
      rfl
  ·rw [decide_eq_false c0, decide_eq_false (show ¬ (p % den > 0 ∧ _) from fun h => c0 h.1)]
   rfl
 simp only [ea, Option.isSome_some, _root_.cond_true, getD_some]
 have eq : V46x0x50 N (p / den) (decide (p % den > 0 ∧ (2 * (p % den) > den ∨ 2 * (p % den) = den ∧ decide (a < 0) = false))) = nearQ (decide (a < 0)) p den := by
  unfold V46x0x50 F46x0x50 nearQ
  by_cases c : p % den > 0 ∧ (2 * (p % den) > den ∨ 2 * (p % den) = den ∧ decide (a < 0) = false)
  ·rw [decide_eq_true c, if_pos c]
   exact wrapU (by omega) (by omega)
  ·rw [decide_eq_false c, if_neg c, Int.add_zero]
   rfl
 simp only [eq]
 obtain ⟨n0, n1⟩ := near_b (below := decide (a < 0)) m2 hd0
 have hgt : ¬ nearQ (decide (a < 0)) p den > 4611686018427387904 := by omega
 simp only [hgt, decide_false, _root_.cond_false]
 by_cases c : a < 0
 ·rw [decide_eq_true c] at n0 n1 ⊢
  rw [if_pos c]
  show some (IntKind.wrap .i64 (0 - IntKind.wrap .i64 (nearQ true p den)), (0 : Int)) = _
  rw [wrapI (x := nearQ true p den) (by omega) (by omega), wrapI (by omega) (by omega), Int.zero_sub]
 ·rw [decide_eq_false c] at n0 n1 ⊢
  rw [if_neg c]
  show some (IntKind.wrap .i64 (nearQ false p den), (0 : Int)) = _
  rw [wrapI (by omega) (by omega)]
theorem scale_r (hN : maxLen < N) {a num den : Int} (ha0 : -4294967296 < a) (ha1 : a < 4294967296) (hn0 : 0 ≤ num) (hn1 : num < 4294967296) (hd0 : 0 < den) (hd1 : den < 4294967296) (hp : (if a < 0 then -a else a) * num ≤ 1152921504606846976) :
  G47x0 N a num den 4 = some (scl a num den, 0) := by
 unfold G47x0 F47x0
 simp only [bnd_eq]
 rw [show V75x0 N 4 1 5 = false from rfl, decide_eq_false (show ¬ den < 1 by omega), decide_eq_false (show ¬ num < 0 by omega), wrapU hn0 (by omega), wrapU (x := den) (by omega) (by omega)]
 simp only [_root_.cond_false]
 have es : V76x0 N a = if a < 0 then -a else a := by
  unfold V76x0 F76x0
  by_cases c : a < 0
  ·rw [decide_eq_true c, if_pos c]
   show IntKind.wrap .u64 (0 - IntKind.wrap .u64 a) = -a
   rw [IntKind.wrap_u64, IntKind.wrap_u64]; omega
  ·rw [decide_eq_false c, if_neg c]
   exact wrapU (by omega) (by omega)
 rw [es]
 have hs : scl a num den = if a < 0 then -nearQ true ((if a < 0 then -a else a) * num) den else nearQ false ((if a < 0 then -a else a) * num) den := by
  unfold scl
  by_cases c : a < 0
  ·rw [if_pos c, if_pos c, if_pos c]
  ·rw [if_neg c, if_neg c, if_neg c]
 rw [hs]
 generalize hz : (if a < 0 then -a else a) = z at hp
 have hz0 : 0 ≤ z := by rw [← hz]; split <;> omega
 have hz1 : z < 4294967296 := by rw [← hz]; split <;> omega
 obtain ⟨m1, m2, m3⟩ := mul_small (N := N) hz0 hz1 hn0 hn1
 rw [m1]
 simp only
 rw [decide_eq_false (show ¬ (0 : Int) ≥ den by omega), div_small m2 m3 hd0]
 generalize hpp : z * num = p at *
 have e0 := Int.emod_nonneg p (show den ≠ 0 by omega)
 have e1 := Int.emod_lt_of_pos p hd0
 have e2 := Int.ediv_nonneg m2 (Int.le_of_lt hd0)
 have e3 := Int.ediv_le_self den m2
 simp only [Option.isSome_some, _root_.cond_true, _root_.cond_false, getD_some]
 have ea : V77x0 N (p / den) (p % den) den (decide (a < 0)) 4 = decide (p % den > 0 ∧ (2 * (p % den) > den ∨ 2 * (p % den) = den ∧ decide (a < 0) = false)) := by
  unfold V77x0 F77x0
  rw [wrapU (x := den - p % den) (by omega) (by omega)]
  by_cases c0 : p % den > 0
  ·rw [show (p % den == 0) = false by simp; omega]
   by_cases c1 : p % den = den - p % den
   ·rw [show (p % den != den - p % den) = false by simp [← c1]]
    have c3 : 2 * (p % den) = den := by omega
    cases ha : decide (a < 0) with
    | true =>
     rw [decide_eq_false (show ¬ (p % den > 0 ∧ (2 * (p % den) > den ∨ 2 * (p % den) = den ∧ true = false)) from fun h => by rcases h.2 with h | h; omega; cases h.2)]
     rfl
    | false =>
     rw [decide_eq_true (show p % den > 0 ∧ (2 * (p % den) > den ∨ 2 * (p % den) = den ∧ false = false) from ⟨c0, .inr ⟨c3, rfl⟩⟩)]
     rfl
   ·rw [show (p % den != den - p % den) = true by simp [c1]]
    show decide (p % den > den - p % den) = _
    rw [decide_eq_decide]
    exact ⟨fun h => ⟨c0, .inl (by omega)⟩, fun h => by omega⟩
  ·rw [show (p % den == 0) = true by simp; omega, decide_eq_false (show ¬ (p % den > 0 ∧ _) from fun h => c0 h.1)]
   rfl
 simp only [ea]
 have eq : G47x0x38 N (p / den) (decide (p % den > 0 ∧ (2 * (p % den) > den ∨ 2 * (p % den) = den ∧ decide (a < 0) = false))) = some (.inr (nearQ (decide (a < 0)) p den)) := by
  unfold G47x0x38 F47x0x38 nearQ
  by_cases c : p % den > 0 ∧ (2 * (p % den) > den ∨ 2 * (p % den) = den ∧ decide (a < 0) = false)
  ·rw [decide_eq_true c, if_pos c, wrapU (x := p / den + 1) (by omega) (by omega), show (p / den + 1 == 0) = false by simp; omega]
   rfl
  ·rw [decide_eq_false c, if_neg c, Int.add_zero]
   rfl
 obtain ⟨n0, n1⟩ := near_b (below := decide (a < 0)) m2 hd0
 have hgt : ¬ nearQ (decide (a < 0)) p den > 4611686018427387904 := by omega
 simp only [eq, inlB_inr, inrQ_inr, Option.isSome_some, _root_.cond_true, _root_.cond_false, getD_some, hgt, decide_false]
 by_cases c : a < 0
 ·rw [decide_eq_true c] at n0 n1 ⊢
  rw [if_pos c]
  show some (IntKind.wrap .i64 (0 - IntKind.wrap .i64 (nearQ true p den)), (0 : Int)) = _
  rw [wrapI (x := nearQ true p den) (by omega) (by omega), wrapI (by omega) (by omega), Int.zero_sub]
 ·rw [decide_eq_false c] at n0 n1 ⊢
  rw [if_neg c]
  show some (IntKind.wrap .i64 (nearQ false p den), (0 : Int)) = _
  rw [wrapI (by omega) (by omega)]
end Go.Proofs.YtpnacmnpahjpoaaGreatDoor

namespace Go.Proofs.YtpnacmnpahjpoaaGreatDoor
open Go Go.AM
set_option maxRecDepth 100000
set_option maxHeartbeats 4000000
variable {N : Nat}
theorem max2_eq (x y : Int) : max2 x y = max x y := by unfold max2; split <;> omega
theorem min2_eq (x y : Int) : min2 x y = min x y := by unfold min2; split <;> omega
structure StepC (k sec way ms : Int) (pct : Bool) (lo hi : Int) : Prop where
 kind : k = 1 ∨ k = 2
 long : (sec = 0 ∧ 1 ≤ way) ∨ (1 ≤ sec ∧ way = 0)
 sec1 : sec ≤ 3599999
 way1 : way ≤ 1000000000
 ms0 : 0 ≤ ms
 ms1 : ms ≤ 4
 none : ms = 0 → lo = 0 ∧ hi = 0 ∧ k = 1
 pct3 : pct = true → ms ≠ 3
 low0 : ms ≠ 0 → 1 ≤ lo ∧ lo ≤ mostOf ms pct ∧ 1 ≤ hi ∧ hi ≤ mostOf ms pct
 ord : ms ≠ 0 → k = 1 → lo ≤ hi
theorem step_facts {k sec way ms : Int} {nm : List UInt8} {pct : Bool} {lo hi tm : Int} {l : List It} (h : leafI (.mk k nm sec way ms pct lo hi tm l)) : StepC k sec way ms pct lo hi := by
 have hk : k = 1 ∨ k = 2 := h.1
 have h3 : stepE k nm sec way ms pct lo hi tm l.length = 0 := h.2
 unfold stepE at h3
 cases hn : nameB nm with
 | false => rw [hn] at h3; simp at h3
 | true =>
 cases hf : formF sec way tm l.length with
 | true => rw [hn, hf] at h3; simp at h3
 | false =>
 cases hg : longF sec way with
 | true => rw [hn, hf, hg] at h3; simp at h3
 | false =>
 rw [hn, hf, hg] at h3
 have h3 : aimE k ms pct lo hi = 0 := h3
 unfold formF at hf
 unfold longF at hg
 simp only [Bool.or_eq_false_iff, Bool.not_eq_false', inI, decide_eq_true_eq] at hg
 simp only [decide_eq_false_iff_not] at hf
 unfold aimE at h3
 by_cases c1 : inI ms 0 4 = false
 ·rw [if_pos c1] at h3; cases h3
 rw [if_neg c1] at h3
 simp only [inI, decide_eq_false_iff_not, Classical.not_not] at c1
 by_cases c2 : ms = 0
 ·rw [if_pos c2] at h3
  by_cases c3 : noAim ms pct lo hi = false ∨ k = 2
  ·rw [if_pos c3] at h3; cases h3
  ·have c4 : noAim ms pct lo hi = true := by
    cases hq : noAim ms pct lo hi with
    | true => rfl
    | false => exact absurd (.inl hq) c3
   unfold noAim at c4
   simp only [Bool.and_eq_true, beq_iff_eq, Bool.and_true] at c4
   exact ⟨hk, by omega, by omega, by omega, by omega, by omega, fun _ => ⟨c4.2.2.1, c4.2.2.2, by omega⟩, fun _ => by omega, fun q => absurd c2 q, fun q => absurd c2 q⟩
 ·rw [if_neg c2] at h3
  by_cases c3 : pct = true ∧ ms = 3
  ·rw [if_pos c3] at h3; cases h3
  rw [if_neg c3] at h3
  by_cases c4 : inI lo 1 (mostOf ms pct) = false ∨ inI hi 1 (mostOf ms pct) = false
  ·rw [if_pos c4] at h3; cases h3
  rw [if_neg c4] at h3
  simp only [inI, decide_eq_false_iff_not, not_or, Classical.not_not] at c4
  by_cases c5 : lo > hi ∧ k ≠ 2
  ·rw [if_pos c5] at h3; cases h3
  ·exact ⟨hk, by omega, by omega, by omega, by omega, by omega, fun q => absurd q c2, fun q r => c3 ⟨q, r⟩, fun _ => ⟨c4.1.1, c4.1.2, c4.2.1, c4.2.2⟩, fun _ q => by omega⟩
structure AthC (hp hl hc : Int) : Prop where
 p0 : 1 ≤ hp
 p1 : hp ≤ 3000
 l0 : 1 ≤ hl
 l1 : hl ≤ 300
 c0 : 1 ≤ hc
 c1 : hc ≤ 36000
def athE (hp hl hc : Int) : Int := if inI hp 1 3000 = true ∧ inI hl 1 300 = true ∧ inI hc 1 36000 = true then 0 else 9
theorem ath_of {hp hl hc : Int} (h : athE hp hl hc = 0) : AthC hp hl hc := by
 unfold athE at h
 by_cases c : inI hp 1 3000 = true ∧ inI hl 1 300 = true ∧ inI hc 1 36000 = true
 ·simp only [inI, decide_eq_true_eq] at c
  exact ⟨c.1.1, c.1.2, c.2.1.1, c.2.1.2, c.2.2.1, c.2.2.2⟩
 ·rw [if_neg c] at h; cases h
theorem V19_eq (hp hl hc : Int) : V19x0 N hp hl hc = athE hp hl hc := by
 unfold V19x0 F19x0 V19x0x4 F19x0x4 athE
 simp only [bnd_eq, V48x0_eq]
 cases inI hp 1 3000 <;> cases inI hl 1 300 <;> cases inI hc 1 36000 <;> rfl
def aimV (ms : Int) (pct : Bool) (n hp hl hc : Int) : Int :=
 if pct = false then n else min (max (if ms = 1 then scl hp n 100 else if ms = 2 then scl hl n 100 else scl 100 hc n) 1) (mostOf ms false)
theorem mul_b {a b c d : Int} (h0 : 0 ≤ a) (h1 : a ≤ c) (h2 : 0 ≤ b) (h3 : b ≤ d) (hc : 0 ≤ c) : a * b ≤ c * d := Int.mul_le_mul h1 h3 h2 hc
theorem scl_ok {a num : Int} (h0 : 0 ≤ a) (h1 : a ≤ 1000000000) (h2 : 0 ≤ num) (h3 : num ≤ 36000) : (if a < 0 then -a else a) * num ≤ 1152921504606846976 := by
 rw [if_neg (by omega)]
 have := mul_b h0 h1 h2 h3 (by omega)
 omega
theorem most_cases (ms : Int) : mostOf ms false = 3000 ∨ mostOf ms false = 300 ∨ mostOf ms false = 36000 := by
 unfold mostOf
 rw [if_neg (by simp)]
 split
 ·exact .inl rfl
 split
 ·exact .inr (.inl rfl)
 split
 ·exact .inr (.inl rfl)
 ·exact .inr (.inr rfl)
theorem aim_b {ms : Int} {pct : Bool} {n hp hl hc : Int} (h1 : 1 ≤ n) (h2 : n ≤ mostOf ms pct) : 1 ≤ aimV ms pct n hp hl hc ∧ aimV ms pct n hp hl hc ≤ 36000 := by
 unfold aimV
 have hm := most_cases ms
 cases pct with
 | false => rw [if_pos rfl]; omega
 | true => rw [if_neg (by simp)]; omega
theorem aim_p (hN : maxLen < N) {ms : Int} {pct : Bool} {n hp hl hc : Int} (hA : AthC hp hl hc) (m0 : 1 ≤ ms) (m1 : ms ≤ 4) (hp3 : pct = true → ms ≠ 3) (h1 : 1 ≤ n) (h2 : n ≤ mostOf ms pct) : G65x0 N ms pct n hp hl hc = some (aimV ms pct n hp hl hc) := by
 obtain ⟨a0, a1, b0, b1, c0, c1⟩ := hA
 unfold G65x0 F65x0 aimV
 cases pct with
 | false => rfl
 | true =>
 have hn : n ≤ 300 := h2
 rw [if_neg (by simp)]
 have hg : ∀ z, G82x0 N ms = some z → z = mostOf ms false := by
  intro z hz
  have : ms = 1 ∨ ms = 2 ∨ ms = 3 ∨ ms = 4 := by omega
  rcases this with rfl | rfl | rfl | rfl <;> exact (Option.some.inj hz).symm
 obtain ⟨z, hz⟩ : ∃ z, G82x0 N ms = some z := by
  have : ms = 1 ∨ ms = 2 ∨ ms = 3 ∨ ms = 4 := by omega
  rcases this with rfl | rfl | rfl | rfl <;> exact ⟨_, rfl⟩
 have e : G65x0x24023 N n ms (ms == 1) hp hl hc = some (if ms = 1 then scl hp n 100 else if ms = 2 then scl hl n 100 else scl 100 hc n) := by
  unfold G65x0x24023 F65x0x24023
  by_cases q1 : ms = 1
  ·rw [if_pos q1, show (ms == 1) = true by simp [q1], scale_p hN (a := hp) (num := n) (den := 100) (by omega) (by omega) (by omega) (by omega) (by omega) (by omega) (scl_ok (by omega) (by omega) (by omega) (by omega))]
   rfl
  ·rw [if_neg q1, show (ms == 1) = false by simp [q1]]
   unfold G65x0x15029 F65x0x15029
   by_cases q2 : ms = 2
   ·rw [if_pos q2, show (ms == 2) = true by simp [q2], scale_p hN (a := hl) (num := n) (den := 100) (by omega) (by omega) (by omega) (by omega) (by omega) (by omega) (scl_ok (by omega) (by omega) (by omega) (by omega))]
    rfl
   ·rw [if_neg q2, show (ms == 2) = false by simp [q2], scale_p hN (a := 100) (num := hc) (den := n) (by omega) (by omega) (by omega) (by omega) (by omega) (by omega) (scl_ok (by omega) (by omega) (by omega) (by omega))]
    rfl
 rw [e, hz, ← hg z hz]
 simp only [bnd_eq, Option.isSome_some, _root_.cond_true, _root_.cond_false, Bool.not_true, getD_some, max2_eq, min2_eq]
theorem V88_most (ms : Int) : V88x0 N ms = mostOf ms false := by
 unfold V88x0 F88x0 mostOf
 rw [if_neg (by simp), bif_if (p := ms = 1) (by simp), bif_if (p := ms = 2) (by simp), bif_if (p := ms = 3) (by simp)]
theorem aim_r (hN : maxLen < N) {ms : Int} {pct : Bool} {n hp hl hc : Int} (hA : AthC hp hl hc) (m0 : 1 ≤ ms) (m1 : ms ≤ 4) (hp3 : pct = true → ms ≠ 3) (h1 : 1 ≤ n) (h2 : n ≤ mostOf ms pct) : G67x0 N ms pct n hp hl hc = some (aimV ms pct n hp hl hc) := by
 obtain ⟨a0, a1, b0, b1, c0, c1⟩ := hA
 unfold G67x0 F67x0 aimV
 rw [show (ms == 0) = false by simp; omega]
 cases pct with
 | false => rfl
 | true =>
 have hn : n ≤ 300 := h2
 have hp3 := hp3 rfl
 rw [if_neg (by simp)]
 have e : G67x0x24023 N n ms (ms == 1) hp hl hc = some (if ms = 1 then scl hp n 100 else if ms = 2 then scl hl n 100 else scl 100 hc n) := by
  unfold G67x0x24023 F67x0x24023
  by_cases q1 : ms = 1
  ·rw [if_pos q1, show (ms == 1) = true by simp [q1], scale_r hN (a := hp) (num := n) (den := 100) (by omega) (by omega) (by omega) (by omega) (by omega) (by omega) (scl_ok (by omega) (by omega) (by omega) (by omega))]
   rfl
  ·rw [if_neg q1, show (ms == 1) = false by simp [q1]]
   unfold G67x0x30029 F67x0x30029
   by_cases q2 : ms = 2
   ·rw [if_pos q2, show (ms == 2) = true by simp [q2], scale_r hN (a := hl) (num := n) (den := 100) (by omega) (by omega) (by omega) (by omega) (by omega) (by omega) (scl_ok (by omega) (by omega) (by omega) (by omega))]
    rfl
   ·unfold G67x0x35 F67x0x35
    rw [if_neg q2, show (ms == 2) = false by simp [q2], show (ms == 4) = true by simp; omega, scale_r hN (a := 100) (num := hc) (den := n) (by omega) (by omega) (by omega) (by omega) (by omega) (by omega) (scl_ok (by omega) (by omega) (by omega) (by omega))]
    rfl
 rw [e]
 simp only [bnd_eq, Option.isSome_some, _root_.cond_true, _root_.cond_false, Bool.not_true, getD_some, max2_eq, min2_eq, V88_most]
structure Blk where
 low : Int
 high : Int
 first : Int
 last : Int
 dur : Int
def blkV (k sec way ms : Int) (pct : Bool) (lo hi hp hl hc : Int) : Blk :=
 let f := aimV ms pct lo hp hl hc
 let l := aimV ms pct hi hp hl hc
 let low := if ms = 0 then 0 else min f l
 let high := if ms = 0 then 0 else max f l
 ⟨low, high, if ms ≠ 0 ∧ k = 2 then f else 0, if ms ≠ 0 ∧ k = 2 then l else 0, if sec = 0 then max (scl way (if ms = 4 then (low + high) / 2 else hc) 10000) 1 else sec⟩
theorem scl_b {a num den : Int} (h0 : 0 ≤ a) (h2 : 0 ≤ num) (h4 : 0 < den) : 0 ≤ scl a num den ∧ scl a num den ≤ a * num := by
 unfold scl
 rw [if_neg (by omega)]
 exact near_b (Int.mul_nonneg h0 h2) h4
structure BlkC (b : Blk) : Prop where
 low0 : 0 ≤ b.low
 ord : b.low ≤ b.high
 high1 : b.high ≤ 36000
 dur0 : 1 ≤ b.dur
 dur1 : b.dur ≤ 36000000000000
 flat : b.first = 0 ∧ b.last = 0 ∨ (1 ≤ b.first ∧ 1 ≤ b.last ∧ b.low = min b.first b.last ∧ b.high = max b.first b.last)
theorem blk_c {k sec way ms : Int} {pct : Bool} {lo hi hp hl hc : Int} (h : StepC k sec way ms pct lo hi) (hA : AthC hp hl hc) : BlkC (blkV k sec way ms pct lo hi hp hl hc) := by
 obtain ⟨a0, a1, b0, b1, c0, c1⟩ := hA
 unfold blkV
 by_cases hm : ms = 0
 ·have hd : 1 ≤ (if sec = 0 then max (scl way hc 10000) 1 else sec) ∧ (if sec = 0 then max (scl way hc 10000) 1 else sec) ≤ 36000000000000 := by
   have h1 := h.long
   have h2 := h.sec1
   by_cases hs : sec = 0
   ·rw [if_pos hs]
    have := scl_b (a := way) (num := hc) (den := 10000) (by omega) (by omega) (by omega)
    have := mul_b (a := way) (b := hc) (c := 1000000000) (d := 36000) (by omega) h.way1 (by omega) (by omega) (by omega)
    omega
   ·rw [if_neg hs]; omega
  simp only [hm, if_true, ne_eq, not_true, false_and, if_false, show ¬ ((0 : Int) = 4) by omega]
  exact ⟨by simp, by simp, by simp, hd.1, hd.2, .inl ⟨rfl, rfl⟩⟩
 ·obtain ⟨l0, l1, g0, g1⟩ := h.low0 hm
  have f1 := aim_b (hp := hp) (hl := hl) (hc := hc) l0 l1
  have f2 := aim_b (hp := hp) (hl := hl) (hc := hc) g0 g1
  generalize aimV ms pct lo hp hl hc = f at f1 ⊢
  generalize aimV ms pct hi hp hl hc = l at f2 ⊢
  simp only [hm, if_false, ne_eq, not_false_iff, true_and]
  have hd : 1 ≤ (if sec = 0 then max (scl way (if ms = 4 then (min f l + max f l) / 2 else hc) 10000) 1 else sec) ∧ (if sec = 0 then max (scl way (if ms = 4 then (min f l + max f l) / 2 else hc) 10000) 1 else sec) ≤ 36000000000000 := by
   have h1 := h.long
   have h2 := h.sec1
   by_cases hs : sec = 0
   ·rw [if_pos hs]
    have hpc : 1 ≤ (if ms = 4 then (min f l + max f l) / 2 else hc) ∧ (if ms = 4 then (min f l + max f l) / 2 else hc) ≤ 36000 := by split <;> omega
    generalize (if ms = 4 then (min f l + max f l) / 2 else hc) = pc at hpc
    have := scl_b (a := way) (num := pc) (den := 10000) (by omega) (by omega) (by omega)
    have := mul_b (a := way) (b := pc) (c := 1000000000) (d := 36000) (by omega) h.way1 (by omega) (by omega) (by omega)
    omega
   ·rw [if_neg hs]; omega
  refine ⟨?_, ?_, ?_, hd.1, hd.2, ?_⟩
  ·show 0 ≤ min f l; omega
  ·show min f l ≤ max f l; omega
  ·show max f l ≤ 36000; omega
  ·by_cases hk : k = 2
   ·rw [if_pos hk, if_pos hk]
    exact .inr ⟨f1.1, f2.1, rfl, rfl⟩
   ·rw [if_neg hk, if_neg hk]
    exact .inl ⟨rfl, rfl⟩
end Go.Proofs.YtpnacmnpahjpoaaGreatDoor

namespace Go.Proofs.YtpnacmnpahjpoaaGreatDoor
open Go Go.AM
set_option maxRecDepth 100000
set_option maxHeartbeats 4000000
variable {N : Nat}
theorem dur_ok {way pc : Int} (h0 : 1 ≤ way) (h1 : way ≤ 1000000000) (h2 : 1 ≤ pc) (h3 : pc ≤ 36000) : (if way < 0 then -way else way) * pc ≤ 1152921504606846976 := scl_ok (by omega) h1 (by omega) h3
theorem time_p (hN : maxLen < N) {way pc : Int} (h0 : 1 ≤ way) (h1 : way ≤ 1000000000) (h2 : 1 ≤ pc) (h3 : pc ≤ 36000) : G66x0 N way pc = some (scl way pc 10000, 0) := by
 unfold G66x0 F66x0
 have e : V66x0x4 N way pc = false := by
  unfold V66x0x4 F66x0x4 V87x0 F87x0
  simp only [bnd_eq]
  rw [decide_eq_false (show ¬ way < 0 by omega), decide_eq_false (show ¬ way > 1000000000 by omega)]
  rw [decide_eq_true (show pc ≥ 1 by omega), decide_eq_true (show pc ≤ 36000 by omega)]
  rfl
 rw [e, scale_p hN (by omega) (by omega) (by omega) (by omega) (by omega) (by omega) (dur_ok h0 h1 h2 h3)]
 rfl
theorem time_r (hN : maxLen < N) {way pc : Int} (h0 : 1 ≤ way) (h1 : way ≤ 1000000000) (h2 : 1 ≤ pc) (h3 : pc ≤ 36000) : G68x0 N way pc = some (scl way pc 10000, 0) := by
 unfold G68x0 F68x0
 have e : V68x0x4 N way pc = false := by
  unfold V68x0x4 F68x0x4 V89x0 F89x0 V75x0 F75x0
  simp only [bnd_eq]
  rw [decide_eq_false (show ¬ way < 0 by omega), decide_eq_false (show ¬ way > 1000000000 by omega)]
  rw [decide_eq_false (show ¬ pc < 1 by omega), decide_eq_false (show ¬ pc > 36000 by omega)]
  rfl
 rw [e, scale_r hN (by omega) (by omega) (by omega) (by omega) (by omega) (by omega) (dur_ok h0 h1 h2 h3)]
 rfl
theorem block_both (hN : maxLen < N) {k sec way ms : Int} {pct : Bool} {lo hi hp hl hc at0 : Int} (h : StepC k sec way ms pct lo hi) (hA : AthC hp hl hc) (ha0 : 0 ≤ at0) (ha1 : at0 ≤ 1000000000000000000) :
  let b := blkV k sec way ms pct lo hi hp hl hc
  G41x0 N k sec way ms pct lo hi hp hl hc at0 = some (at0 + b.dur, b.low, b.high, b.first, b.last) ∧ G43x0 N k sec way ms pct lo hi hp hl hc at0 = some (at0 + b.dur, b.low, b.high, b.first, b.last) := by
 intro b
 have hbc := blk_c h hA
 have hb : b = blkV k sec way ms pct lo hi hp hl hc := rfl
 obtain ⟨b1, b2⟩ : 1 ≤ b.dur ∧ b.dur ≤ 36000000000000 := ⟨hbc.dur0, hbc.dur1⟩
 obtain ⟨lo0, lord, hi1⟩ : 0 ≤ b.low ∧ b.low ≤ b.high ∧ b.high ≤ 36000 := ⟨hbc.low0, hbc.ord, hbc.high1⟩
 have hk := h.kind
 have hlg := h.long
 have hs1 := h.sec1
 have hw1 := h.way1
 have hA' := hA
 obtain ⟨a0, a1, l0, l1, c0, c1⟩ := hA'
 -- the aims
 have aims : G41x0x11 N (ms != 0) k ms pct lo hi hp hl hc 0 0 0 0 = some (b.low, b.high, b.first, b.last) ∧ ∃ f l, G67x0 N ms pct lo hp hl hc = some f ∧ G67x0 N ms pct hi hp hl hc = some l ∧ min2 f l = b.low ∧ max2 f l = b.high ∧ V43x0x14 N f l (k == 2) 0 0 = (b.first, b.last) := by
  by_cases hm : ms = 0
  ·have hk1 := (h.none hm).2.2
   have eb : b.low = 0 ∧ b.high = 0 ∧ b.first = 0 ∧ b.last = 0 := by rw [hb]; simp [blkV, hm]
   rw [eb.1, eb.2.1, eb.2.2.1, eb.2.2.2]
   refine ⟨?_, 0, 0, ?_, ?_, rfl, rfl, ?_⟩
   ·rw [show (ms != 0) = false by simp [hm]]; rfl
   ·unfold G67x0 F67x0; rw [show (ms == 0) = true by simp [hm]]; rfl
   ·unfold G67x0 F67x0; rw [show (ms == 0) = true by simp [hm]]; rfl
   ·rw [show (k == 2) = false by simp [hk1]]; rfl
  ·obtain ⟨q0, q1, g0, g1⟩ := h.low0 hm
   have m0 := h.ms0
   have e1 := aim_p hN hA (by omega) h.ms1 h.pct3 q0 q1
   have e2 := aim_p hN hA (by omega) h.ms1 h.pct3 g0 g1
   have e3 := aim_r hN hA (by omega) h.ms1 h.pct3 q0 q1
   have e4 := aim_r hN hA (by omega) h.ms1 h.pct3 g0 g1
   have eb : b.low = min (aimV ms pct lo hp hl hc) (aimV ms pct hi hp hl hc) ∧ b.high = max (aimV ms pct lo hp hl hc) (aimV ms pct hi hp hl hc) ∧ b.first = (if k = 2 then aimV ms pct lo hp hl hc else 0) ∧ b.last = (if k = 2 then aimV ms pct hi hp hl hc else 0) := by
    rw [hb]; simp [blkV, hm]
   rw [eb.1, eb.2.1, eb.2.2.1, eb.2.2.2]
   refine ⟨?_, _, _, e3, e4, by rw [min2_eq], by rw [max2_eq], ?_⟩
   ·unfold G41x0x11 F41x0x11
    rw [e1, e2, show (ms != 0) = true by simp [hm]]
    simp only [bnd_eq, Option.isSome_some, _root_.cond_true, getD_some, min2_eq, max2_eq]
    unfold V41x0x20 F41x0x20
    by_cases hk2 : k = 2
    ·rw [if_pos hk2, if_pos hk2, show (k == 2) = true by simp [hk2]]; rfl
    ·rw [if_neg hk2, if_neg hk2, show (k == 2) = false by simp [hk2]]; rfl
   ·unfold V43x0x14 F43x0x14
    by_cases hk2 : k = 2
    ·rw [if_pos hk2, if_pos hk2, show (k == 2) = true by simp [hk2]]; rfl
    ·rw [if_neg hk2, if_neg hk2, show (k == 2) = false by simp [hk2]]; rfl
 obtain ⟨p1, f, l, r1, r2, r3, r4, r5⟩ := aims
 have hdur : b.dur = if sec = 0 then max (scl way (if ms = 4 then (b.low + b.high) / 2 else hc) 10000) 1 else sec := rfl
 have hpace : ms = 4 → 1 ≤ b.low := fun hm => by
  have h4 : ms ≠ 0 := by omega
  obtain ⟨q0, q1, g0, g1⟩ := h.low0 h4
  have x1 := aim_b (hp := hp) (hl := hl) (hc := hc) q0 q1
  have x2 := aim_b (hp := hp) (hl := hl) (hc := hc) g0 g1
  have : b.low = min (aimV ms pct lo hp hl hc) (aimV ms pct hi hp hl hc) := by rw [hb]; simp [blkV, h4]
  omega
 -- the pace
 have hpc : IntKind.wrap .i64 ((IntKind.wrap .i64 (b.low + b.high)).tdiv 2) = (b.low + b.high) / 2 := by
  rw [wrapI (x := b.low + b.high) (by omega) (by omega), Int.tdiv_eq_ediv_of_nonneg (by omega), wrapI (by omega) (by omega)]
 have epp : V41x0x35 N hc (ms == 4) b.low b.high = if ms = 4 then (b.low + b.high) / 2 else hc := by
  unfold V41x0x35 F41x0x35
  rw [hpc]
  exact bif_if (by simp)
 have epr : V43x0x29 N hc (ms == 4) b.low b.high = if ms = 4 then (b.low + b.high) / 2 else hc := by
  unfold V43x0x29 F43x0x29
  rw [hpc]
  exact bif_if (by simp)
 have hpr : 1 ≤ (if ms = 4 then (b.low + b.high) / 2 else hc) ∧ (if ms = 4 then (b.low + b.high) / 2 else hc) ≤ 36000 := by
  by_cases hm : ms = 4
  ·have := hpace hm; rw [if_pos hm]; omega
  ·rw [if_neg hm]; omega
 have hto : IntKind.wrap .i64 (at0 + b.dur) = at0 + b.dur := wrapI (by omega) (by omega)
 constructor
 ·have e : G41x0x29 N sec (sec == 0) way hc ms b.low b.high = some b.dur := by
   unfold G41x0x29 F41x0x29
   rw [epp, hdur, bnd_eq]
   by_cases hs : sec = 0
   ·rw [if_pos hs, show (sec == 0) = true by simp [hs], time_p hN (by omega) hw1 hpr.1 hpr.2]
    simp only [bnd_eq, Option.isSome_some, _root_.cond_true, getD_some, max2_eq]
   ·rw [if_neg hs, show (sec == 0) = false by simp [hs]]
    rfl
  unfold G41x0 F41x0
  rw [p1]
  simp only [bnd_eq, Option.isSome_some, _root_.cond_true, getD_some, e, hto]
 ·obtain ⟨z, hz1, hz2⟩ : ∃ z, G43x0x23 N sec (decide (way > 0)) way ms hc b.low b.high = some z ∧ max z 1 = b.dur := by
   unfold G43x0x23 F43x0x23
   rw [epr, hdur, bnd_eq]
   by_cases hs : sec = 0
   ·rw [if_pos hs, decide_eq_true (show way > 0 by omega), time_r hN (by omega) hw1 hpr.1 hpr.2]
    exact ⟨_, rfl, rfl⟩
   ·rw [if_neg hs, decide_eq_false (show ¬ way > 0 by omega)]
    exact ⟨sec, rfl, by omega⟩
  unfold G43x0 F43x0
  rw [r1, r2]
  simp only [bnd_eq, Option.isSome_some, _root_.cond_true, getD_some, r3, r4, r5, hz1]
  simp only [max2_eq, hz2, hto]
def blkX (x : D) (hp hl hc : Int) : Blk := blkV (x.cell 0).toI (x.cell 2).toI (x.cell 3).toI (x.cell 4).toI (x.cell 5).toB (x.cell 6).toI (x.cell 7).toI hp hl hc
def blkD (x : D) (hp hl hc at0 : Int) : D := .a [.i at0, .i (at0 + (blkX x hp hl hc).dur), .s (x.cell 1).toS, .i (x.cell 4).toI, .i (blkX x hp hl hc).low, .i (blkX x hp hl hc).high, .i (blkX x hp hl hc).first, .i (blkX x hp hl hc).last]
def endT (hp hl hc : Int) : Int → List D → Int
 | a, [] => a
 | a, x :: r => endT hp hl hc (a + (blkX x hp hl hc).dur) r
def tlD (hp hl hc : Int) : Int → List D → List D
 | _, [] => []
 | a, x :: r => blkD x hp hl hc a :: tlD hp hl hc (a + (blkX x hp hl hc).dur) r
theorem tlD_length {hp hl hc : Int} : ∀ (a : Int) (l : List D), (tlD hp hl hc a l).length = l.length
 | _, [] => rfl
 | a, x :: r => by rw [tlD, List.length_cons, tlD_length, List.length_cons]
theorem step_of {x : D} (h : leafI (itOf x)) : StepC (x.cell 0).toI (x.cell 2).toI (x.cell 3).toI (x.cell 4).toI (x.cell 5).toB (x.cell 6).toI (x.cell 7).toI := by
 rw [itOf_eq] at h
 exact step_facts h
theorem room72 {a : Nat} (h : a < 2000) : (decide ((a + 1) * 72 ≤ room) && decide (a + 1 ≤ strMax)) = true := by
 rw [decide_eq_true (show (a + 1) * 72 ≤ room by unfold room; omega), decide_eq_true (show a + 1 ≤ strMax by unfold strMax; omega)]
 rfl
theorem tl_both (hN : maxLen < N) {hp hl hc : Int} (hA : AthC hp hl hc) {l : List D} (hl1 : l.length ≤ 1000) (hf : ∀ x ∈ l, leafI (itOf x)) :
  G15x0x21 N l (l.length : Int) hp hl hc 0 0 true [] = some (endT hp hl hc 0 l, l.isEmpty, tlD hp hl hc 0 l) ∧ G16x0x30 N l (l.length : Int) hp hl hc 0 0 true [] = some (endT hp hl hc 0 l, l.isEmpty, tlD hp hl hc 0 l) := by
 have hmm : maxLen = 9223372036854775807 := rfl
 constructor
 ·unfold G15x0x21
  refine (for_acc (xs := l) (A := Int × Bool × List D) (S := fun w a kr => S15x0x21 N l (l.length : Int) hp hl hc a.1 w a.2.1 a.2.2 (fun a w b c => kr w (a, b, c)) (fun p => some p)) (L := fun m w a => L15x0x21 N l (l.length : Int) hp hl hc m a.1 w a.2.1 a.2.2 (fun p => some p)) (fun m w a => rfl)
   (fun w a => 0 ≤ a.1 ∧ a.1 ≤ w * 36000000000000 ∧ a.2.2.length ≤ w) (fun r a => some (endT hp hl hc a.1 r, a.2.1 && r.isEmpty, a.2.2 ++ tlD hp hl hc a.1 r)) (by omega) ?_ ?_ hN (0, true, []) ⟨by omega, by omega, by simp⟩).trans (by simp)
  ·intro a kr _
   simp [S15x0x21, endT, tlD]
  ·intro w a kr x r hx hw0 hw1 hw hi hk hr ⟨i0, i1, i2⟩ ih
   have hs := step_of (hf x hx)
   have hb := blk_c hs hA
   have hbb := (block_both hN (at0 := a.1) hs hA i0 (by omega)).1
   have d0 : 1 ≤ (blkX x hp hl hc).dur := hb.dur0
   have d1 : (blkX x hp hl hc).dur ≤ 36000000000000 := hb.dur1
   simp only [S15x0x21, decide_eq_true hw1, _root_.cond_true, hi, bnd_eq, hk, hw, hbb, Option.isSome_some, getD_some, room72 (show a.2.2.length < 2000 by omega)]
   refine (ih (a.1 + (blkX x hp hl hc).dur, false, a.2.2 ++ [blkD x hp hl hc a.1]) ⟨by show 0 ≤ a.1 + _; omega, by show a.1 + _ ≤ _; omega, by show ((a.2.2 ++ [_]).length : Int) ≤ _; rw [List.length_append]; simp; omega⟩).trans ?_
   simp [endT, tlD]
 ·unfold G16x0x30
  refine (for_acc (xs := l) (A := Int × Bool × List D) (S := fun w a kr => S16x0x30 N l (l.length : Int) hp hl hc a.1 w a.2.1 a.2.2 (fun a w b c => kr w (a, b, c)) (fun p => some p)) (L := fun m w a => L16x0x30 N l (l.length : Int) hp hl hc m a.1 w a.2.1 a.2.2 (fun p => some p)) (fun m w a => rfl)
   (fun w a => 0 ≤ a.1 ∧ a.1 ≤ w * 36000000000000 ∧ a.2.2.length ≤ w) (fun r a => some (endT hp hl hc a.1 r, a.2.1 && r.isEmpty, a.2.2 ++ tlD hp hl hc a.1 r)) (by omega) ?_ ?_ hN (0, true, []) ⟨by omega, by omega, by simp⟩).trans (by simp)
  ·intro a kr _
   simp [S16x0x30, endT, tlD]
  ·intro w a kr x r hx hw0 hw1 hw hi hk hr ⟨i0, i1, i2⟩ ih
   have hs := step_of (hf x hx)
   have hb := blk_c hs hA
   have hbb := (block_both hN (at0 := a.1) hs hA i0 (by omega)).2
   have d0 : 1 ≤ (blkX x hp hl hc).dur := hb.dur0
   have d1 : (blkX x hp hl hc).dur ≤ 36000000000000 := hb.dur1
   simp only [S16x0x30, decide_eq_true hw1, _root_.cond_true, hi, bnd_eq, hk, hw, hbb, Option.isSome_some, getD_some, room72 (show a.2.2.length < 2000 by omega)]
   refine (ih (a.1 + (blkX x hp hl hc).dur, false, a.2.2 ++ [blkD x hp hl hc a.1]) ⟨by show 0 ≤ a.1 + _; omega, by show a.1 + _ ≤ _; omega, by show ((a.2.2 ++ [_]).length : Int) ≤ _; rw [List.length_append]; simp; omega⟩).trans ?_
   simp [endT, tlD]
theorem or2 (hN : maxLen < N) (a b : Int) : G39x0 N [.i a, .i b] = some (if a = 0 then b else a) := by
 have hmm : maxLen = 9223372036854775807 := rfl
 obtain ⟨M, rfl⟩ : ∃ M, N = M + 3 := ⟨N - 3, by omega⟩
 unfold G39x0 F39x0
 have e : G39x0x9 (M + 3) 0 [.i a, .i b] ((([.i a, .i b] : List D).length : Nat) : Int) 0 = some (if a = 0 then (if b = 0 then .inr () else .inl b) else .inl a) := by
  show (bif a != 0 then some (Sum.inl a) else (bif b != 0 then some (Sum.inl b) else some (.inr ()))) = _
  rw [bif_if (b := a != 0) (p := a ≠ 0) (by simp), bif_if (b := b != 0) (p := b ≠ 0) (by simp)]
  by_cases h1 : a = 0 <;> by_cases h2 : b = 0 <;> simp [h1, h2]
 rw [e]
 by_cases h1 : a = 0 <;> by_cases h2 : b = 0 <;> simp [h1, h2, bnd_eq, inlB, inlV, inrQ]
def tlR (nm : List UInt8) (l : List D) (hp hl hc : Int) : Bool × List D × Int :=
 if chkW nm (its l) ≠ 0 then (true, [], chkW nm (its l)) else if athE hp hl hc ≠ 0 then (true, [], athE hp hl hc) else if endT hp hl hc 0 (pcL l) > 1000000 then (true, [], 3) else ((pcL l).isEmpty, tlD hp hl hc 0 (pcL l), 0)
theorem leaf_mem {l : List D} (h : okIL 0 (its l)) : ∀ x ∈ pcL l, leafI (itOf x) := fun x hx => (unL_ok _ _ h).2.2 (itOf x) (by rw [← pcL_its]; exact List.mem_map_of_mem hx)
theorem G15x0_eq (hN : maxLen < N) {d : Nat} {nm : List UInt8} {nl : Bool} {l : List D} {hp hl hc : Int} (hnm : nm.length ≤ maxLen) (hok : okN d l) (hd : d ≤ N) : G15x0 N nm nl l hp hl hc = some (tlR nm l hp hl hc) := by
 unfold G15x0 F15x0 tlR
 rw [G10x0_eq hN hnm hok hd]
 simp only [bnd_eq, Option.isSome_some, _root_.cond_true, getD_some, V19_eq, or2 hN]
 by_cases h : chkW nm (its l) = 0
 ·rw [if_pos h, if_neg (by simp [h])]
  by_cases ha : athE hp hl hc = 0
  ·obtain ⟨_, _, h3, _, h5⟩ := chk_facts h
   have h6 := (unL_ok _ _ h3).1
   rw [← pcL_its, its_length] at h6
   rw [show (athE hp hl hc != 0) = false by simp [ha], if_neg (by simp [ha]), R40_eq hN N d nl l 0 hok h3 h5 hd]
   simp only [Option.isSome_some, _root_.cond_true, _root_.cond_false, getD_some]
   simp only [(tl_both hN (ath_of ha) (l := pcL l) (by omega) (leaf_mem h3)).1, Option.isSome_some, _root_.cond_true, getD_some]
   exact (bif_if decide_eq_true_iff).trans (by split <;> rfl)
  ·rw [show (athE hp hl hc != 0) = true by simp [ha], if_pos ha]; rfl
 ·rw [if_neg h, show (chkW nm (its l) != 0) = true by simp [h], if_pos h]; rfl
end Go.Proofs.YtpnacmnpahjpoaaGreatDoor

namespace Go.Proofs.YtpnacmnpahjpoaaGreatDoor
open Go Go.AM
set_option maxRecDepth 100000
set_option maxHeartbeats 4000000
variable {N : Nat}
structure BkC (b : D) : Prop where
 from0 : 0 ≤ (b.cell 0).toI
 ord : (b.cell 0).toI < (b.cell 1).toI
 to1 : (b.cell 1).toI ≤ 1000000
 low0 : 0 ≤ (b.cell 4).toI
 lowhigh : (b.cell 4).toI ≤ (b.cell 5).toI
 high1 : (b.cell 5).toI ≤ 36000
 flat : (b.cell 6).toI = 0 ∧ (b.cell 7).toI = 0 ∨ (1 ≤ (b.cell 6).toI ∧ 1 ≤ (b.cell 7).toI ∧ (b.cell 4).toI = min (b.cell 6).toI (b.cell 7).toI ∧ (b.cell 5).toI = max (b.cell 6).toI (b.cell 7).toI)
theorem end_ge {hp hl hc : Int} (hA : AthC hp hl hc) : ∀ (l : List D) (a : Int), (∀ x ∈ l, leafI (itOf x)) → a ≤ endT hp hl hc a l
 | [], _, _ => Int.le_refl _
 | x :: r, a, h => by
  have hb := (blk_c (step_of (h x (by simp))) hA).dur0
  have := end_ge hA r (a + (blkX x hp hl hc).dur) fun y hy => h y (by simp [hy])
  rw [endT]
  have hb : 1 ≤ (blkX x hp hl hc).dur := hb
  omega
theorem tl_c {hp hl hc : Int} (hA : AthC hp hl hc) : ∀ (l : List D) (a : Int), 0 ≤ a → (∀ x ∈ l, leafI (itOf x)) → endT hp hl hc a l ≤ 1000000 → ∀ b ∈ tlD hp hl hc a l, BkC b
 | [], _, _, _, _, b, hb => by simp [tlD] at hb
 | x :: r, a, ha, h, he, b, hb => by
  have hbc := blk_c (step_of (h x (by simp))) hA
  have hd : 1 ≤ (blkX x hp hl hc).dur := hbc.dur0
  rw [endT] at he
  have hge := end_ge hA r (a + (blkX x hp hl hc).dur) fun y hy => h y (by simp [hy])
  rw [tlD] at hb
  rcases List.mem_cons.1 hb with rfl | hb
  ·exact ⟨ha, by show a < a + _; omega, by show a + _ ≤ _; omega, hbc.low0, hbc.ord, hbc.high1, hbc.flat⟩
  ·exact tl_c hA r _ (by omega) (fun y hy => h y (by simp [hy])) he b hb
def inB' (s : Int) (b : D) : Bool := decide ((b.cell 0).toI ≤ s ∧ s < (b.cell 1).toI)
def fnd (s : Int) : List D → Nat → Option (Nat × D)
 | [], _ => none
 | b :: r, w => if inB' s b = true then some (w, b) else fnd s r (w + 1)
theorem fnd_get {s : Int} : ∀ {l : List D} {w i : Nat} {b : D}, fnd s l w = some (i, b) → w ≤ i ∧ i < w + l.length ∧ l.getD (i - w) (.i 0) = b ∧ b ∈ l ∧ inB' s b = true
 | [], _, _, _, h => by cases h
 | x :: r, w, i, b, h => by
  rw [fnd] at h
  by_cases c : inB' s x = true
  ·rw [if_pos c] at h
   simp only [Option.some.injEq, Prod.mk.injEq] at h
   obtain ⟨rfl, rfl⟩ := h
   exact ⟨Nat.le_refl _, by simp, by simp, by simp, c⟩
  ·rw [if_neg c] at h
   obtain ⟨h1, h2, h3, h4, h5⟩ := fnd_get h
   refine ⟨by omega, by simp only [List.length_cons]; omega, ?_, by simp [h4], h5⟩
   obtain ⟨k, hk⟩ : ∃ k, i - w = k + 1 := ⟨i - w - 1, by omega⟩
   rw [hk, List.getD_cons_succ, show k = i - (w + 1) by omega]
   exact h3
theorem V45_eq (b : D) (s : Int) : V45x0 N (b.cell 0).toI (b.cell 1).toI s = inB' s b := by
 unfold V45x0 F45x0 inB'
 rw [Bool.eq_iff_iff]; simp
theorem G44_eq (hN : maxLen < N) {l : List D} (hl : l.length ≤ 1000) (s : Int) : G44x0 N l s = some (match fnd s l 0 with | none => -1 | some p => (p.1 : Int)) := by
 have hmm : maxLen = 9223372036854775807 := rfl
 have e : G44x0x6 N l (l.length : Int) s 0 = some (match fnd s l 0 with | none => .inr () | some p => .inl (p.1 : Int)) := by
  unfold G44x0x6
  refine (for_ind (xs := l) (.i 0 : D) (S := fun w kr => S44x0x6 N l (l.length : Int) s w kr (fun p => some (Sum.inl p)) (fun p => some (Sum.inr p))) (L := fun m w => L44x0x6 N l (l.length : Int) s m w (fun p => some (Sum.inl p)) (fun p => some (Sum.inr p))) (fun m w => rfl)
   (fun w r => some (match fnd s r w.toNat with | none => .inr () | some p => .inl (p.1 : Int))) (by omega) ?_ ?_ hN).trans rfl
  ·intro kr
   simp [S44x0x6, fnd]
  ·intro w kr h0 h1 hw hi hk
   simp only [S44x0x6, decide_eq_true h1, _root_.cond_true, hi, bnd_eq, hw, hk, V45_eq]
   rw [fnd]
   generalize l.getD w.toNat (.i 0) = b
   by_cases c : inB' s b = true
   ·rw [if_pos c, c]
    simp only [_root_.cond_true]
    rw [Int.toNat_of_nonneg h0]
   ·have c' : inB' s b = false := by simpa using c
    rw [if_neg c, c', show w.toNat + 1 = (w + 1).toNat by omega]
    rfl
 unfold G44x0 F44x0
 rw [e]
 cases fnd s l 0 <;> rfl
def aimOf (b : D) (s : Int) : Int × Int := if (b.cell 6).toI = 0 then ((b.cell 4).toI, (b.cell 5).toI) else
 ((b.cell 6).toI + scl ((b.cell 7).toI - (b.cell 6).toI) (2 * (s - (b.cell 0).toI) + 1) (2 * ((b.cell 1).toI - (b.cell 0).toI)), (b.cell 6).toI + scl ((b.cell 7).toI - (b.cell 6).toI) (2 * (s - (b.cell 0).toI) + 1) (2 * ((b.cell 1).toI - (b.cell 0).toI)))
theorem ramp_ok {b : D} {s : Int} (h : BkC b) (hs : inB' s b = true) : -36000 ≤ (b.cell 7).toI - (b.cell 6).toI ∧ (b.cell 7).toI - (b.cell 6).toI ≤ 36000 ∧ 0 ≤ s - (b.cell 0).toI ∧ s - (b.cell 0).toI < 1000000 ∧ 1 ≤ (b.cell 1).toI - (b.cell 0).toI ∧ (b.cell 1).toI - (b.cell 0).toI ≤ 1000000 ∧ s - (b.cell 0).toI < (b.cell 1).toI - (b.cell 0).toI ∧ 0 ≤ (b.cell 6).toI ∧ (b.cell 6).toI ≤ 36000 ∧
  (if (b.cell 7).toI - (b.cell 6).toI < 0 then -((b.cell 7).toI - (b.cell 6).toI) else (b.cell 7).toI - (b.cell 6).toI) * (2 * (s - (b.cell 0).toI) + 1) ≤ 1152921504606846976 := by
 obtain ⟨h0, h1, h2, h3, h4, h5, h6⟩ := h
 simp only [inB', decide_eq_true_eq] at hs
 have ha : -36000 ≤ (b.cell 7).toI - (b.cell 6).toI ∧ (b.cell 7).toI - (b.cell 6).toI ≤ 36000 ∧ 0 ≤ (b.cell 6).toI ∧ (b.cell 6).toI ≤ 36000 := by omega
 refine ⟨ha.1, ha.2.1, by omega, by omega, by omega, by omega, by omega, ha.2.2.1, ha.2.2.2, ?_⟩
 have := mul_b (a := if (b.cell 7).toI - (b.cell 6).toI < 0 then -((b.cell 7).toI - (b.cell 6).toI) else (b.cell 7).toI - (b.cell 6).toI) (b := 2 * (s - (b.cell 0).toI) + 1) (c := 36000) (d := 2000001) (by split <;> omega) (by split <;> omega) (by omega) (by omega) (by omega)
 omega
theorem scl_len {a num den : Int} (ha0 : -36000 ≤ a) (ha1 : a ≤ 36000) (hn0 : 0 ≤ num) (hn1 : num ≤ 2000001) (hd : 0 < den) : -72002000000 ≤ scl a num den ∧ scl a num den ≤ 72002000000 := by
 unfold scl
 by_cases c : a < 0
 ·rw [if_pos c]
  have h1 := near_b (below := true) (p := -a * num) (den := den) (Int.mul_nonneg (by omega) hn0) hd
  have h2 := mul_b (a := -a) (b := num) (c := 36000) (d := 2000001) (by omega) (by omega) hn0 hn1 (by omega)
  omega
 ·rw [if_neg c]
  have h1 := near_b (below := false) (p := a * num) (den := den) (Int.mul_nonneg (by omega) hn0) hd
  have h2 := mul_b (a := a) (b := num) (c := 36000) (d := 2000001) (by omega) (by omega) hn0 hn1 (by omega)
  omega
noncomputable def aimR (nm : List UInt8) (l : List D) (hp hl hc s : Int) : Int × Int × Int :=
 if (tlR nm l hp hl hc).2.2 ≠ 0 then (0, 0, (tlR nm l hp hl hc).2.2) else
 match fnd s (tlR nm l hp hl hc).2.1 0 with
 | none => (0, 0, 9)
 | some p => ((aimOf p.2 s).1, (aimOf p.2 s).2, 0)
theorem tl_cases (nm : List UInt8) (l : List D) (hp hl hc : Int) : (∃ e, e ≠ 0 ∧ tlR nm l hp hl hc = (true, [], e)) ∨ (tlR nm l hp hl hc = ((pcL l).isEmpty, tlD hp hl hc 0 (pcL l), 0) ∧ chkW nm (its l) = 0 ∧ AthC hp hl hc ∧ endT hp hl hc 0 (pcL l) ≤ 1000000 ∧ (∀ b ∈ tlD hp hl hc 0 (pcL l), BkC b) ∧ (tlD hp hl hc 0 (pcL l)).length ≤ 1000) := by
 unfold tlR
 by_cases h : chkW nm (its l) = 0
 ·rw [if_neg (by simp [h])]
  by_cases ha : athE hp hl hc = 0
  ·rw [if_neg (by simp [ha])]
   by_cases c : endT hp hl hc 0 (pcL l) > 1000000
   ·rw [if_pos c]; exact .inl ⟨3, by omega, rfl⟩
   ·rw [if_neg c]
    obtain ⟨_, _, h3, _, h5⟩ := chk_facts h
    have h6 := (unL_ok _ _ h3).1
    rw [← pcL_its, its_length] at h6
    exact .inr ⟨rfl, h, ath_of ha, by omega, tl_c (ath_of ha) _ _ (by omega) (leaf_mem h3) (by omega), by rw [tlD_length]; omega⟩
  ·rw [if_pos ha]; exact .inl ⟨_, ha, rfl⟩
 ·rw [if_pos h]; exact .inl ⟨_, h, rfl⟩
theorem G17x0_eq (hN : maxLen < N) {d : Nat} {nm : List UInt8} {nl : Bool} {l : List D} {hp hl hc s : Int} (hnm : nm.length ≤ maxLen) (hok : okN d l) (hd : d ≤ N) : G17x0 N nm nl l hp hl hc s = some (aimR nm l hp hl hc s) := by
 unfold G17x0 F17x0 aimR
 rw [G15x0_eq hN hnm hok hd, bnd_eq]
 simp only [Option.isSome_some, _root_.cond_true, getD_some]
 rcases tl_cases nm l hp hl hc with ⟨e, he, ht⟩ | ⟨ht, h1, h2, h3, h4, h5⟩
 ·rw [ht, show ((true, ([] : List D), e).2.2 != 0) = true by simp [he], if_pos he]
  rfl
 ·rw [ht, if_neg (by simp)]
  simp only
  rw [show ((0 : Int) != 0) = false from rfl, G44_eq hN h5 s, bnd_eq]
  cases hf : fnd s (tlD hp hl hc 0 (pcL l)) 0 with
  | none => rfl
  | some p =>
   obtain ⟨i, b⟩ := p
   obtain ⟨f1, f2, f3, f4, f5⟩ := fnd_get hf
   simp only [Option.isSome_some, _root_.cond_true, _root_.cond_false, getD_some]
   rw [Nat.sub_zero] at f3
   have hb := h4 b f4
   obtain ⟨r1, r2, r3, r4, r5, r6, r7, r8, r9, r10⟩ := ramp_ok hb f5
   have hto := hb.to1
   have hfr := hb.from0
   have hor := hb.ord
   simp only [decide_eq_false (show ¬ (i : Int) < 0 by omega), inB_of (i := (i : Int)) (by omega) (by omega : (i : Int) < ((tlD hp hl hc 0 (pcL l)).length : Nat)), Int.toNat_natCast, f3, bnd_eq, _root_.cond_true, _root_.cond_false]
   have w1 : IntKind.wrap .i64 ((b.cell 7).toI - (b.cell 6).toI) = (b.cell 7).toI - (b.cell 6).toI := wrapI (by omega) (by omega)
   have w2 : IntKind.wrap .i64 (s - (b.cell 0).toI) = s - (b.cell 0).toI := wrapI (by omega) (by omega)
   have w3 : IntKind.wrap .i64 (2 * (s - (b.cell 0).toI)) = 2 * (s - (b.cell 0).toI) := wrapI (by omega) (by omega)
   have w4 : IntKind.wrap .i64 (2 * (s - (b.cell 0).toI) + 1) = 2 * (s - (b.cell 0).toI) + 1 := wrapI (by omega) (by omega)
   have w5 : IntKind.wrap .i64 ((b.cell 1).toI - (b.cell 0).toI) = (b.cell 1).toI - (b.cell 0).toI := wrapI (by omega) (by omega)
   have w6 : IntKind.wrap .i64 (2 * ((b.cell 1).toI - (b.cell 0).toI)) = 2 * ((b.cell 1).toI - (b.cell 0).toI) := wrapI (by omega) (by omega)
   have sl := scl_len (den := 2 * ((b.cell 1).toI - (b.cell 0).toI)) r1 r2 (show 0 ≤ 2 * (s - (b.cell 0).toI) + 1 by omega) (by omega) (by omega)
   simp only [w1, w2, w3, w4, w5, w6, scale_p hN (a := (b.cell 7).toI - (b.cell 6).toI) (num := 2 * (s - (b.cell 0).toI) + 1) (den := 2 * ((b.cell 1).toI - (b.cell 0).toI)) (by omega) (by omega) (by omega) (by omega) (by omega) (by omega) r10, Option.isSome_some, _root_.cond_true, getD_some]
   rw [wrapI (x := (b.cell 6).toI + _) (by omega) (by omega)]
   unfold aimOf
   by_cases c : (b.cell 6).toI = 0
   ·rw [if_pos c, show ((b.cell 6).toI == 0) = true by simp [c]]; rfl
   ·rw [if_neg c, show ((b.cell 6).toI == 0) = false by simp [c]]; rfl
theorem equal_blk (hN : maxLen < N) {l : List D} (hl : l.length ≤ 1000) : G21x0 N l l = some true := by
 have hmm : maxLen = 9223372036854775807 := rfl
 have e : G21x0x12 N l l (l.length : Int) 0 = some (.inr ()) := by
  unfold G21x0x12
  refine (for_ind (xs := l) (.i 0 : D) (S := fun w kr => S21x0x12 N l l (l.length : Int) w kr (fun p => some (Sum.inl p)) (fun p => some (Sum.inr p))) (L := fun m w => L21x0x12 N l l (l.length : Int) m w (fun p => some (Sum.inl p)) (fun p => some (Sum.inr p))) (fun m w => rfl)
   (fun w r => some (.inr ())) (by omega) ?_ ?_ hN).trans rfl
  ·intro kr
   simp [S21x0x12]
  ·intro w kr h0 h1 hw hi hk
   simp only [S21x0x12, decide_eq_true h1, _root_.cond_true, hi, bnd_eq, hw, hk, beq_self_eq_true, Bool.and_true, Bool.not_true, _root_.cond_false]
 unfold G21x0 F21x0
 rw [e]
 simp [bnd_eq, inlB, inrQ]
end Go.Proofs.YtpnacmnpahjpoaaGreatDoor

namespace Go.Proofs.YtpnacmnpahjpoaaGreatDoor
open Go Go.AM
set_option maxRecDepth 100000
set_option maxHeartbeats 4000000
variable {N : Nat}
theorem near_le {below : Bool} {a num den : Int} (h0 : 0 ≤ a) (h1 : 0 ≤ num) (h2 : num < den) : nearQ below (a * num) den ≤ a := by
 rcases Int.lt_or_eq_of_le h0 with h | h
 ·have h3 : a * num < a * den := Int.mul_lt_mul_of_pos_left h2 h
  have h4 : (a * num) / den < a := Int.ediv_lt_of_lt_mul (by omega) h3
  unfold nearQ
  split <;> omega
 ·rw [← h, Int.zero_mul]
  unfold nearQ
  rw [Int.zero_ediv, Int.zero_emod, if_neg (by omega)]
  omega
theorem aim_in {b : D} {s : Int} (h : BkC b) (hs : inB' s b = true) : (b.cell 4).toI ≤ (aimOf b s).1 ∧ (aimOf b s).2 ≤ (b.cell 5).toI := by
 obtain ⟨r1, r2, r3, r4, r5, r6, r7, r8, r9, r10⟩ := ramp_ok h hs
 have hlh := h.lowhigh
 unfold aimOf
 by_cases c : (b.cell 6).toI = 0
 ·rw [if_pos c]
  exact ⟨Int.le_refl _, Int.le_refl _⟩
 ·rw [if_neg c]
  rcases h.flat with ⟨f1, _⟩ | ⟨f1, f2, f3, f4⟩
  ·exact absurd f1 c
  ·simp only
   rw [f3, f4]
   unfold scl
   by_cases q : (b.cell 7).toI - (b.cell 6).toI < 0
   ·rw [if_pos q]
    have n1 := near_b (below := true) (p := -((b.cell 7).toI - (b.cell 6).toI) * (2 * (s - (b.cell 0).toI) + 1)) (den := 2 * ((b.cell 1).toI - (b.cell 0).toI)) (Int.mul_nonneg (by omega) (by omega)) (by omega)
    have n2 := near_le (below := true) (a := -((b.cell 7).toI - (b.cell 6).toI)) (num := 2 * (s - (b.cell 0).toI) + 1) (den := 2 * ((b.cell 1).toI - (b.cell 0).toI)) (by omega) (by omega) (by omega)
    omega
   ·rw [if_neg q]
    have n1 := near_b (below := false) (p := ((b.cell 7).toI - (b.cell 6).toI) * (2 * (s - (b.cell 0).toI) + 1)) (den := 2 * ((b.cell 1).toI - (b.cell 0).toI)) (Int.mul_nonneg (by omega) (by omega)) (by omega)
    have n2 := near_le (below := false) (a := (b.cell 7).toI - (b.cell 6).toI) (num := 2 * (s - (b.cell 0).toI) + 1) (den := 2 * ((b.cell 1).toI - (b.cell 0).toI)) (by omega) (by omega) (by omega)
    omega
theorem blkX_its {x y : D} (h : itOf x = itOf y) (hp hl hc : Int) : blkX x hp hl hc = blkX y hp hl hc ∧ ∀ a, blkD x hp hl hc a = blkD y hp hl hc a := by
 obtain ⟨e0, e1, e2, e3, e4, e5, e6, e7, _, _⟩ := (itOf_inj x y).1 h
 have hb : blkX x hp hl hc = blkX y hp hl hc := by unfold blkX; rw [e0, e2, e3, e4, e5, e6, e7]
 exact ⟨hb, fun a => by unfold blkD; rw [hb, e1, e4]⟩
theorem tl_its {hp hl hc : Int} : ∀ {l l' : List D} (a : Int), its l = its l' → tlD hp hl hc a l = tlD hp hl hc a l' ∧ endT hp hl hc a l = endT hp hl hc a l'
 | [], [], _, _ => ⟨rfl, rfl⟩
 | x :: l, y :: l', a, h => by
  have h : itOf x :: its l = itOf y :: its l' := h
  obtain ⟨h1, h2⟩ := List.cons.inj h
  obtain ⟨b1, b2⟩ := blkX_its h1 hp hl hc
  obtain ⟨t1, t2⟩ := tl_its (hp := hp) (hl := hl) (hc := hc) (a + (blkX y hp hl hc).dur) h2
  rw [tlD, tlD, endT, endT, b1, b2, t1, t2]
  exact ⟨rfl, rfl⟩
 | [], _ :: _, _, h => by cases h
 | _ :: _, [], _, h => by cases h
theorem loop9 (hN : maxLen < N) {d : Nat} {nm : List UInt8} {nl : Bool} {l : List D} {hp hl hc s : Int} (hnm : nm.length ≤ maxLen) (hok : okN d l) (hd : d ≤ N)
  (ht : tlR nm l hp hl hc = ((pcL l).isEmpty, tlD hp hl hc 0 (pcL l), 0)) (hB : ∀ b ∈ tlD hp hl hc 0 (pcL l), BkC b) (hlen : (tlD hp hl hc 0 (pcL l)).length ≤ 1000) :
  G9x0x18 N s (tlD hp hl hc 0 (pcL l)) ((tlD hp hl hc 0 (pcL l)).length : Int) nm nl l hp hl hc 0 0 = some (.inr ()) := by
 have hmm : maxLen = 9223372036854775807 := rfl
 have hL : (tlD hp hl hc 0 (pcL l)).length = (pcL l).length := tlD_length ..
 have haim : G17x0 N nm nl l hp hl hc s = some (match fnd s (tlD hp hl hc 0 (pcL l)) 0 with | none => (0, 0, 9) | some p => ((aimOf p.2 s).1, (aimOf p.2 s).2, 0)) := by
  rw [G17x0_eq hN hnm hok hd]
  unfold aimR
  rw [ht, if_neg (by simp)]
  try rfl
 generalize hT : tlD hp hl hc 0 (pcL l) = t at *
 generalize hP : pcL l = P at *
 unfold G9x0x18
 refine for_acc (xs := t) (A := Int) (S := fun w a kr => S9x0x18 N s t (t.length : Int) nm nl l hp hl hc a w (fun a w => kr w a) (fun p => some (Sum.inl p)) (fun p => some (Sum.inr p))) (L := fun m w a => L9x0x18 N s t (t.length : Int) nm nl l hp hl hc m a w (fun p => some (Sum.inl p)) (fun p => some (Sum.inr p))) (fun m w a => rfl)
  (fun w a => t.drop w.toNat = tlD hp hl hc a (P.drop w.toNat) ∧ (a ≤ s → fnd s t 0 = fnd s (t.drop w.toNat) w.toNat)) (fun r a => some (.inr ())) (by omega) ?_ ?_ hN 0 ⟨by simpa using hT.symm, fun _ => rfl⟩
 ·intro a kr _
  simp [S9x0x18]
 ·intro w a kr x r hx hw0 hw1 hw hi hk hr ⟨i1, i2⟩ ih
  have hdr := drop_at (.i 0) hw0 hw1
  have hpr := drop_at (.i 0 : D) hw0 (xs := P) (by omega)
  rw [hk] at hdr
  rw [hdr, hpr, tlD] at i1
  obtain ⟨j1, j2⟩ := List.cons.inj i1
  have hb := hB x hx
  have h0 : (x.cell 0).toI = a := by rw [j1]; rfl
  have h1 : (x.cell 1).toI = a + (blkX (P.getD w.toNat (.i 0)) hp hl hc).dur := by rw [j1]; rfl
  have hord := hb.ord
  have hlh := hb.lowhigh
  have next : kr (w + 1) (x.cell 1).toI = some (.inr ()) := by
   refine ih _ ⟨by rw [j2, h1], fun h => ?_⟩
   rw [i2 (by omega), hdr, fnd, if_neg (by simp only [inB', decide_eq_true_eq]; omega), show w.toNat + 1 = (w + 1).toNat by omega]
  simp only [S9x0x18, decide_eq_true hw1, _root_.cond_true, hi, bnd_eq, hk, hw]
  rw [show ((x.cell 0).toI != a) = false by simp [h0], decide_eq_false (show ¬ (x.cell 1).toI ≤ (x.cell 0).toI by omega), decide_eq_false (show ¬ (x.cell 4).toI > (x.cell 5).toI by omega)]
  have hmx : (bif ((x.cell 6).toI != 0) then (bif ((min2 (x.cell 6).toI (x.cell 7).toI) != (x.cell 4).toI) then true else ((max2 (x.cell 6).toI (x.cell 7).toI) != (x.cell 5).toI)) else false) = false := by
   rw [min2_eq, max2_eq]
   rcases hb.flat with ⟨f1, _⟩ | ⟨f1, f2, f3, f4⟩
   ·rw [f1]; rfl
   ·rw [← f3, ← f4, bne_self_eq_false, bne_self_eq_false]
    cases (x.cell 6).toI != 0 <;> rfl
  simp only [_root_.cond_false, hmx]
  have hin : (bif (decide (s ≥ (x.cell 0).toI)) then (decide (s < (x.cell 1).toI)) else false) = inB' s x := by
   unfold inB'
   rw [Bool.eq_iff_iff]; simp
  rw [hin]
  have hg : G9x0x38 N s (inB' s x) nm nl l hp hl hc (x.cell 4).toI (x.cell 5).toI = some (.inr ()) := by
   unfold G9x0x38 F9x0x38
   cases hq : inB' s x with
   | false => rfl
   | true =>
    have hf : fnd s t 0 = some (w.toNat, x) := by
     have : a ≤ s := by simp only [inB', decide_eq_true_eq] at hq; omega
     rw [i2 this, hdr, fnd, if_pos hq]
    rw [haim, hf]
    obtain ⟨a1, a2⟩ := aim_in hb hq
    simp only [bnd_eq, _root_.cond_true, Option.isSome_some, getD_some]
    rw [show ((0 : Int) != 0) = false from rfl, decide_eq_false (show ¬ (aimOf x s).1 < (x.cell 4).toI by omega), decide_eq_false (show ¬ (aimOf x s).2 > (x.cell 5).toI by omega)]
    rfl
  rw [hg]
  exact next
theorem law9 (hN : maxLen < N) {d : Nat} (hd : d ≤ N) {v0 : List UInt8} {v1 : Bool} {v2 : List D} {v3 v4 v5 v6 : Int} (h0 : v0.length ≤ maxLen) (h2 : okN d v2) : G9x0 N v0 v1 v2 v3 v4 v5 v6 = some true := by
 have hmm : maxLen = 9223372036854775807 := rfl
 have h6 : 6 ≤ N := by omega
 unfold G9x0 F9x0
 rw [G15x0_eq hN h0 h2 hd, bnd_eq]
 simp only [Option.isSome_some, _root_.cond_true, getD_some]
 rcases tl_cases v0 v2 v3 v4 v5 with ⟨e, he, ht⟩ | ⟨ht, q1, q2, q3, q4, q5⟩
 ·rw [ht, show ((true, ([] : List D), e).2.2 != 0) = true by simp [he]]
  rfl
 ·have hloop := loop9 hN (nl := v1) (s := v6) h0 h2 hd ht q4 q5
  rw [ht]
  simp only
  rw [show ((0 : Int) != 0) = false from rfl, hloop, bnd_eq]
  simp only [inlB_inr, inrQ_inr, Option.isSome_some, _root_.cond_true, _root_.cond_false]
  rcases G27x0_eq hN (nl := v1) h0 h2 hd with ⟨e, he, hp, hg⟩ | ⟨hp, b, r, hg, hf⟩
  ·rw [hg, bnd_eq]
   simp only [Option.isSome_some, _root_.cond_true, getD_some]
   rw [show (e == 0) = false by simp [he]]
   rfl
  ·rw [hg, bnd_eq]
   simp only [Option.isSome_some, _root_.cond_true, getD_some]
   obtain ⟨c1, c2, c3, c4, c5⟩ := chk_facts q1
   have c6 := (unL_ok _ _ c3).2.2
   obtain ⟨f1, f2, f3⟩ := fold_spec 3 0 rfl (unL (its v2)) c6
   have hlen : (unL (its v2)).length ≤ 200 := by
    rcases pl_cases v0 v2 with ⟨e, he, h⟩ | ⟨h, _, _, _, g4, _⟩
    ·rw [hp] at h
     simp only [Prod.mk.injEq] at h
     exact absurd h.2.2.2.symm he
    ·rw [← pcL_its, its_length]; exact g4
   have hne : its r ≠ [] := by rw [hf.1]; exact foldI_ne (unL_ne c3 c2)
   have k1 : chkW v0 (its r) = 0 := by
    refine chk_of c1 hne (by rw [hf.1]; exact f3) (by rw [hf.1]; omega) ?_
    have := (unL_ok _ _ f3).1
    rw [hf.1, ← this, f1]
    omega
   have hits : its (pcL r) = its (pcL v2) := by rw [pcL_its, hf.1, f1, pcL_its]
   obtain ⟨t1, t2⟩ := tl_its (hp := v3) (hl := v4) (hc := v5) 0 hits
   have ha : athE v3 v4 v5 = 0 := by
    unfold tlR at ht
    rw [if_neg (by simp [q1])] at ht
    by_cases ha : athE v3 v4 v5 = 0
    ·exact ha
    ·rw [if_pos ha] at ht
     simp only [Prod.mk.injEq] at ht
     exact ht.2.2
   have htr : tlR v0 r v3 v4 v5 = ((pcL r).isEmpty, tlD v3 v4 v5 0 (pcL v2), 0) := by
    unfold tlR
    rw [if_neg (by simp [k1]), if_neg (by simp [ha]), if_neg (by rw [t2]; omega), t1]
   have hg3 : G9x0x56 N (tlD v3 v4 v5 0 (pcL v2)) ((0 : Int) == 0) v3 v4 v5 v0 b r = some (.inr ()) := by
    unfold G9x0x56 F9x0x56
    have e5 : G9x0x58 N (tlD v3 v4 v5 0 (pcL v2)) (tlD v3 v4 v5 0 (pcL v2)) 0 = some false := by
     unfold G9x0x58 F9x0x58
     rw [equal_blk hN q5]
     rfl
    rw [G15x0_eq hN h0 hf.2.1 h6, htr, show ((0 : Int) == 0) = true from rfl]
    simp only [bnd_eq, Option.isSome_some, _root_.cond_true, getD_some, e5]
    rfl
   rw [hg3]
   rfl
end Go.Proofs.YtpnacmnpahjpoaaGreatDoor

namespace Go.Proofs.YtpnacmnpahjpoaaGreatDoor
open Go Go.AM
set_option maxRecDepth 100000
set_option maxHeartbeats 4000000
theorem kinds24 : kinds Tryz.prog 24 = [.str, .sl 64] := by kernel_rfl
theorem kinds64 : kinds Tryz.prog 64 = [.int .i64, .str, .int .i64, .int .i64, .int .i64, .bool, .int .i64, .int .i64, .int .i64, .sl 64] := by kernel_rfl
theorem agg64 : isAggB Tryz.prog 64 = true := by kernel_rfl
theorem kinds30 : kinds Tryz.prog 30 = [.int .i64, .int .i64, .int .i64] := by kernel_rfl
theorem kinds3 : kinds Tryz.prog 3 = [.int .i64] := by kernel_rfl
theorem int1 {m : Nat} {k : IntKind} {d : D} (h : TyK Tryz.prog m (.int k) d) : ∃ i, d = .i i := by
 cases m with
 | zero => exact h.elim
 | succ m => obtain ⟨i, h1, _⟩ := h; exact ⟨i, h1⟩
theorem str1 {m : Nat} {d : D} (h : TyK Tryz.prog m .str d) : ∃ s, d = .s s ∧ s.length ≤ maxLen := by
 cases m with
 | zero => exact h.elim
 | succ m => exact h
theorem itemsOk : ∀ (m : Nat) (nl : Bool) (xs : List D), TyK Tryz.prog m (.sl 64) (.l nl xs) → okN m xs
 | 0, _, _, h => h.elim
 | m + 1, nl, xs, h => by
  obtain ⟨nl', xs', h1, _, h2, h3⟩ := h
  cases h1
  refine ⟨h2, fun x hx => ?_⟩
  have h := h3 x hx
  unfold TyEl at h
  rw [if_pos agg64, kinds64] at h
  obtain ⟨cs, rfl, h⟩ := h
  obtain ⟨c0, _, rfl, g0, h⟩ := all2_cons h
  obtain ⟨c1, _, rfl, g1, h⟩ := all2_cons h
  obtain ⟨c2, _, rfl, g2, h⟩ := all2_cons h
  obtain ⟨c3, _, rfl, g3, h⟩ := all2_cons h
  obtain ⟨c4, _, rfl, g4, h⟩ := all2_cons h
  obtain ⟨c5, _, rfl, g5, h⟩ := all2_cons h
  obtain ⟨c6, _, rfl, g6, h⟩ := all2_cons h
  obtain ⟨c7, _, rfl, g7, h⟩ := all2_cons h
  obtain ⟨c8, _, rfl, g8, h⟩ := all2_cons h
  obtain ⟨c9, _, rfl, g9, h⟩ := all2_cons h
  obtain rfl := all2_nil h
  obtain ⟨s1, rfl, q1⟩ := str1 g1
  obtain ⟨nl9, xs9, rfl⟩ : ∃ nl xs, c9 = .l nl xs := by
   cases m with
   | zero => exact g9.elim
   | succ m => obtain ⟨nl, xs, h1, _⟩ := g9; exact ⟨nl, xs, h1⟩
  exact ⟨q1, itemsOk m nl9 xs9 g9⟩
theorem argW {m : Nat} {ds : List D} (h : ArgOk Tryz.prog m 24 ds) : ∃ s nl xs, ds = [.s s, .l nl xs] ∧ s.length ≤ maxLen ∧ okN m xs := by
 unfold ArgOk at h
 rw [kinds24] at h
 obtain ⟨_, _, rfl, h0, h⟩ := all2_cons h
 obtain ⟨_, _, rfl, h1, h⟩ := all2_cons h
 obtain rfl := all2_nil h
 obtain ⟨s, rfl, hs⟩ := str1 h0
 obtain ⟨nl, xs, rfl⟩ : ∃ nl xs, _ = D.l nl xs := by
  cases m with
  | zero => exact h1.elim
  | succ m => obtain ⟨nl, xs, h1, _⟩ := h1; exact ⟨nl, xs, h1⟩
 exact ⟨s, nl, xs, rfl, hs, itemsOk m nl xs h1⟩
theorem argH {m : Nat} {ds : List D} (h : ArgOk Tryz.prog m 30 ds) : ∃ a b c, ds = [.i a, .i b, .i c] := by
 unfold ArgOk at h
 rw [kinds30] at h
 obtain ⟨_, _, rfl, h0, h⟩ := all2_cons h
 obtain ⟨_, _, rfl, h1, h⟩ := all2_cons h
 obtain ⟨_, _, rfl, h2, h⟩ := all2_cons h
 obtain rfl := all2_nil h
 obtain ⟨a, rfl⟩ := int1 h0
 obtain ⟨b, rfl⟩ := int1 h1
 obtain ⟨c, rfl⟩ := int1 h2
 exact ⟨a, b, c, rfl⟩
theorem argI {m : Nat} {ds : List D} (h : ArgOk Tryz.prog m 3 ds) : ∃ a, ds = [.i a] := by
 unfold ArgOk at h
 rw [kinds3] at h
 obtain ⟨_, _, rfl, h0, h⟩ := all2_cons h
 obtain rfl := all2_nil h
 obtain ⟨a, rfl⟩ := int1 h0
 exact ⟨a, rfl⟩
theorem callLaw (m : Nat) (dss : List (List D)) (h : All2 (ArgOk Tryz.prog m) Tryz.f9.params.toList dss) : CallOk Tryz.prog 9 (argVs Tryz.prog Tryz.f9.params.toList dss) [] ([.c (.b true)], []) := by
 have hp : Tryz.f9.params.toList = [24, 30, 3] := by kernel_rfl
 rw [hp] at h ⊢
 match dss, h with
 | [d0, d1, d2], ⟨h0, h1, h2, _⟩ =>
  obtain ⟨n0, b0, x0, rfl, s0, o0⟩ := argW h0
  obtain ⟨p1, q1, r1, rfl⟩ := argH h1
  obtain ⟨i2, rfl⟩ := argI h2
  obtain ⟨N, hN, hd⟩ : ∃ N, maxLen < N ∧ m ≤ N := ⟨maxLen + 1 + m, by omega, by omega⟩
  refine ok9x0 N _ _ (A9x0 N [.s n0, .b b0, .l x0, .i p1, .i q1, .i r1, .i i2]) (by kernel_rfl) _ ?_
  have e : A9x0 N [.s n0, .b b0, .l x0, .i p1, .i q1, .i r1, .i i2] = bnd (G9x0 N n0 b0 x0 p1 q1 r1 i2) fun q => [(q.isSome, ([.c (.b (q.getD default))], []))] := by kernel_rfl
  rw [e, law9 hN hd s0 o0]
  rfl
theorem Tryz.own : ownKnob Tryz.prog.godebug = none := by kernel_rfl
theorem Tryz.laidOut : laidOutB Tryz.prog = true := by kernel_rfl
theorem bulkOk {H : Type} : BulkOk (Rows.uptoBulk : DataW H → Nat) Rows.uptoBulkAll := by
 refine ⟨fun l => ?_, fun l => ?_, ?_, fun e s => ?_, fun p => ?_, ?_, fun d r => ?_⟩
 ·cases l <;> simp [Rows.uptoBulk]
 ·simp [Rows.uptoBulk]
 ·simp [Rows.uptoBulk]
 ·simp only [Rows.uptoBulk]; omega
 ·simp [Rows.uptoBulk]
 ·simp [Rows.uptoBulkAll]
 ·simp [Rows.uptoBulkAll]
theorem g0 : Tryz.prog.globalNamed "internal/bytealg.MaxLen" = some 2 := by kernel_rfl
theorem g1 : Tryz.prog.globalNamed "internal/strconv.uint64pow10" = some 7 := by kernel_rfl
theorem g2 : Tryz.prog.globalNamed "strconv.ErrSyntax" = some 5 := by kernel_rfl
theorem g3 : Tryz.prog.globalNamed "strconv.ErrRange" = some 6 := by kernel_rfl
theorem giW {W : World} (hs : W.ShapedOpen Tryz.prog) (hl : laidMetH Tryz.prog Rows.workoutTimelineIsWholeRow.laid W) {M : Stab} (hM : ∀ b o, ¬ M b o) : GI Tryz.prog M W := by
 have hl : laidMet Tryz.prog Rows.workoutTimelineIsWholeRow.laid W := hl
 refine gi_of g0 g1 g2 g3 ?_ ?_ ?_ ?_ hM
 ·exact gat_int (t := 3) (zero := #[.int .i64 0]) hs (of_decide_eq_true (by kernel_rfl)) (by kernel_rfl) rfl (by kernel_rfl) (by kernel_rfl) (by kernel_rfl)
 ·obtain ⟨ps, hv, _⟩ := hl
  obtain ⟨g, t, cs, fuel, p, q1, q2, q3, q4⟩ := laid_get (x := ("internal/strconv.uint64pow10", Rows.laid_internal_strconv_uint64pow10)) hv (by simp [Rows.workoutTimelineIsWholeRow])
  obtain rfl := Option.some.inj ((show (Tryz.prog.globals[7]?).map (·.type) = some 194 by kernel_rfl).symm.trans (by rw [Option.some.inj (g1.symm.trans q1)]; exact q2))
  have hcs := Lib.cells_of_tab (k := .u64) (zs := (List.range 20).map fun i => ((10 ^ i : Nat) : Int)) (n := 20) (e := 95) (t := 194) (by kernel_rfl) (by kernel_rfl) (by kernel_rfl) (by kernel_rfl) (show DataW.trod _ _ _ _ _ _ fuel 194 cs.toList = some (Lib.tabData .u64 ((List.range 20).map fun i => ((10 ^ i : Nat) : Int)), p) from q4)
  refine gat_tab (k := .u64) (zs := (List.range 20).map fun i => ((10 ^ i : Nat) : Int)) g1 (show W.var? Tryz.prog _ = _ by rw [q3, ← hcs]) (by simp) fun i p z h1 h2 => ?_
  rw [List.getElem?_map] at h1 h2
  obtain ⟨j, j1, rfl⟩ := Option.map_eq_some_iff.1 h1
  rw [j1] at h2
  simp only [Option.map_some, Option.some.injEq] at h2
  subst h2
  rfl
 ·exact gat_err (t := 112) hl (show ("strconv.ErrSyntax", Rows.laid_strconv_ErrSyntax) ∈ Rows.workoutTimelineIsWholeRow.laid by simp [Rows.workoutTimelineIsWholeRow]) g2 (by kernel_rfl) (by kernel_rfl)
 ·exact gat_err (t := 112) hl (show ("strconv.ErrRange", Rows.laid_strconv_ErrRange) ∈ Rows.workoutTimelineIsWholeRow.laid by simp [Rows.workoutTimelineIsWholeRow]) g3 (by kernel_rfl) (by kernel_rfl)
abbrev synS : ByteArray := { data := #[105, 110, 118, 97, 108, 105, 100, 32, 115, 121, 110, 116, 97, 120] }
abbrev rngS : ByteArray := { data := #[118, 97, 108, 117, 101, 32, 111, 117, 116, 32, 111, 102, 32, 114, 97, 110, 103, 101] }
noncomputable def low : Nat := (World.holding Tryz.prog default ⟨#[], #[], []⟩).heap.size
def tabOf {H : Type} : DataW H → Array Value
 | .agg l => (l.map fun | .lit (.int k n) => Value.int k n | _ => undef).toArray
 | _ => #[]
def setG (h : Array Obj) (g : Nat) (vs : Array Value) : Array Obj := h.modify g fun
 | .cells _ t fr => .cells vs t fr
 | o => o
def flatOf {H : Type} : DataW H → Array Value
 | .agg l => (l.flatMap fun | .agg r => r.map (fun | .lit (.int k n) => Value.int k n | _ => undef) | _ => []).toArray
 | _ => #[]
noncomputable def laidWorld (os : Os) : World :=
 let w0 := World.holding Tryz.prog os ⟨#[.cells #[.string synS] 192, .cells #[.string rngS] 192], #[], []⟩
 { w0 with heap := setG (setG (setG (setG (setG (setG (setG w0.heap 7 (tabOf (H := Unit) Rows.laid_internal_strconv_uint64pow10)) 5 #[.iface 190 (.pointer (some ⟨low, 0, none⟩))]) 6 #[.iface 190 (.pointer (some ⟨low + 1, 0, none⟩))])
   8 (tabOf (H := Unit) Rows.laid_math_bits_deBruijn32tab)) 9 (tabOf (H := Unit) Rows.laid_math_bits_deBruijn64tab)) 3 (tabOf Rows.laid_unicode_utf8_first)) 4 (flatOf (H := Unit) Rows.laid_unicode_utf8_acceptRanges) }
def arg0 : Value := .agg #[.string ⟨#[]⟩, .slice none 0 0]
def dat0 {H : Type} : DataW H := .agg [.lit (.string []), .nil]
def arg1 : Value := .agg #[.int .i64 0, .int .i64 0, .int .i64 0]
def dat1 {H : Type} : DataW H := .agg [.lit (.int .i64 0), .lit (.int .i64 0), .lit (.int .i64 0)]
def arg2 : Value := .int .i64 0
def dat2 {H : Type} : DataW H := .lit (.int .i64 0)
theorem laid_met (os : Os) : laidMet Tryz.prog Rows.workoutTimelineIsWholeRow.laid ((laidWorld os).forCall (fun _ _ => 0) ⟨#[], #[arg0, arg1, arg2], []⟩).memory :=
 laidMet_of_run' 8 (by kernel_rfl) (by kernel_rfl)
theorem reads (os : Os) {H : Type} (enc : TypeId × Value → H) : ∃ places, DataW.whole enc Tryz.prog ((laidWorld os).forCall (fun _ _ => 0) ⟨#[], #[arg0, arg1, arg2], []⟩).memory Tryz.f9.params.toList Rows.workoutTimelineIsWholeSpec.vars false #[arg0, arg1, arg2].toList 8 = some ([dat0, dat1, dat2], [], places) :=
 ⟨[], by kernel_rfl⟩
theorem lifted (os : Os) (started : os.Started) (H : Type) (enc : TypeId × Value → H) (F : Stop.Interp) :
  ReturnsInHanded {} Tryz.checked os 9 .any ((OpenSpec.ofChange Rows.workoutTimelineIsWholeSpec).preRow enc Tryz.prog Tryz.f9 Rows.workoutTimelineIsWholeRow.domain false Rows.workoutTimelineIsWholeRow.laid) (((OpenSpec.ofChange Rows.workoutTimelineIsWholeSpec).at F).post enc Tryz.prog Tryz.f9 false true false false) := by
 obtain ⟨places, hx⟩ := reads os enc
 refine returnsInHanded_of_row (C := Tryz.checked) (s := OpenSpec.ofChange Rows.workoutTimelineIsWholeSpec) Tryz.own started (by kernel_rfl) Tryz.func9
  (witness_row_at (enc := enc) (C := Tryz.checked) false (laidWorld os) #[arg0, arg1, arg2] rfl (by kernel_rfl) (by kernel_rfl) (by kernel_rfl)
   (OpenSpec.preRow_of_cond 8 hx (by kernel_rfl) (fun k hk => by cases hk) (by kernel_rfl) (laid_met os))) ?_
 intro W base args ds gs before hval hW _ _ _ hL hsh _
 exact law_callR (tb := 4) bulkOk [64] (by kernel_rfl) Tryz.laidOut rfl (by kernel_rfl) (by kernel_rfl) (by kernel_rfl) (fun l hl => by
  rw [show Tryz.f9.params.size = 3 by kernel_rfl] at hl
  match l, hl with
  | [_, _, _], _ => rfl) (fun m dss h _ => callLaw m dss h) (fun hM => giW hsh hL hM) hval hW
end Go.Proofs.YtpnacmnpahjpoaaGreatDoor

