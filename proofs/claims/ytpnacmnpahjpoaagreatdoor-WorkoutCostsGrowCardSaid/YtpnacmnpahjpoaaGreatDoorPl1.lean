/- A part of a proof of a law: lemmas. Conditions: those of each lemma. -/
import Derived.Test.YtpnacmnpahjpoaaGreatDoorWPp1
import Derived.KernelRfl
import Derived.Test.YtpnacmnpahjpoaaGreatDoorCards
import Derived.Test.YtpnacmnpahjpoaaGreatDoorTie
import Derived.Deep.DeepHandedRow
import Derived.ProofKit
set_option linter.all false
set_option maxRecDepth 100000
namespace Go.Proofs.YtpnacmnpahjpoaaGreatDoor
open Go Go.AM
set_option maxRecDepth 100000
set_option maxHeartbeats 4000000
variable {N : Nat}
theorem bnd_eq {A B : Type} (a : A) (f : A → B) : bnd a f = f a := rfl
theorem inB_of {w : Int} {n : Nat} (h0 : 0 ≤ w) (h1 : w < n) : inB w n = true := by unfold inB; simp; omega
theorem max2_eq (x y : Int) : max2 x y = max x y := by unfold max2; split <;> omega
theorem min2_eq (x y : Int) : min2 x y = min x y := by unfold min2; split <;> omega
def lowOf (v3 v4 v5 : Int) : Int := bif v3 == 4 then (10000 : Int).tdiv v5 else v4
def highOf (v3 v4 v5 : Int) : Int := bif v3 == 4 then (10000 + v4 - 1).tdiv v4 else v5
def cst (v3 v4 v5 n : Int) : Int :=
 bif v3 == 0 then 0 else bif decide (n < 0) then 1000 else
  bif decide (n < lowOf v3 v4 v5) then min ((1000 * (lowOf v3 v4 v5 - n)).tdiv (max (lowOf v3 v4 v5) 1)) 1000 else
  bif decide (n > highOf v3 v4 v5) then min ((1000 * (n - highOf v3 v4 v5)).tdiv (max (highOf v3 v4 v5) 1)) 1000 else 0
def rightB (v3 v4 v5 : Int) : Prop := 0 ≤ v3 ∧ v3 ≤ 4 ∧ (v3 ≠ 0 → 1 ≤ v4 ∧ v4 ≤ v5 ∧ v5 ≤ 40000)
theorem tdiv_b {a b : Int} (ha : 0 ≤ a) (hb : 1 ≤ b) : 0 ≤ a.tdiv b ∧ a.tdiv b ≤ a := by
 rw [Int.tdiv_eq_ediv_of_nonneg ha]
 exact ⟨Int.ediv_nonneg ha (by omega), Int.ediv_le_self b ha⟩
theorem low_b {v3 v4 v5 : Int} (h : rightB v3 v4 v5) (h0 : v3 ≠ 0) : 0 ≤ lowOf v3 v4 v5 ∧ lowOf v3 v4 v5 ≤ 60000 ∧ 0 ≤ highOf v3 v4 v5 ∧ highOf v3 v4 v5 ≤ 60000 := by
 obtain ⟨h1, h2, h3⟩ := h
 obtain ⟨h4, h5, h6⟩ := h3 h0
 unfold lowOf highOf
 cases v3 == 4 with
 | true =>
  have q1 := tdiv_b (a := 10000) (b := v5) (by omega) (by omega)
  have q2 := tdiv_b (a := 10000 + v4 - 1) (b := v4) (by omega) (by omega)
  simp only [_root_.cond_true]
  omega
 | false => simp only [_root_.cond_false]; omega
theorem aim_p {v3 v4 v5 : Int} (h : rightB v3 v4 v5) (h0 : v3 ≠ 0) : G51x0x11 N v4 v5 (v3 == 4) v4 v5 = some (lowOf v3 v4 v5, highOf v3 v4 v5) ∧ G53x0x23 N v4 v5 (v3 == 4) v4 v5 = some (lowOf v3 v4 v5, highOf v3 v4 v5) := by
 obtain ⟨h1, h2, h3⟩ := h
 obtain ⟨h4, h5, h6⟩ := h3 h0
 have e1 : (v5 == 0) = false := by simp; omega
 have e2 : (v4 == 0) = false := by simp; omega
 have q1 := tdiv_b (a := 10000) (b := v5) (by omega) (by omega)
 have q2 := tdiv_b (a := 10000 + v4 - 1) (b := v4) (by omega) (by omega)
 have w1 : IntKind.wrap .i64 (10000 + v4) = 10000 + v4 := wrapI (by omega) (by omega)
 have w2 : IntKind.wrap .i64 (10000 + v4 - 1) = 10000 + v4 - 1 := wrapI (by omega) (by omega)
 have w3 : IntKind.wrap .i64 ((10000 + v4 - 1).tdiv v4) = (10000 + v4 - 1).tdiv v4 := wrapI (by omega) (by omega)
 have w4 : IntKind.wrap .i64 ((10000 : Int).tdiv v5) = (10000 : Int).tdiv v5 := wrapI (by omega) (by omega)
 unfold G51x0x11 F51x0x11 G53x0x23 F53x0x23 lowOf highOf
 cases v3 == 4 with
 | true => simp only [_root_.cond_true, e1, e2, Bool.not_false, bnd_eq, w1, w2, w3, w4, and_self]
 | false => simp only [_root_.cond_false, and_self]
theorem cost_q {v3 v4 v5 n : Int} (h : rightB v3 v4 v5) (h1 : -1 ≤ n) (h2 : n ≤ 1000000000) : G53x0 N v3 v4 v5 n = some (cst v3 v4 v5 n) := by
 unfold G53x0 F53x0 cst
 by_cases h0 : v3 = 0
 ·have : (v3 == 0) = true := by simpa using h0
  simp only [this, _root_.cond_true]
 ·have e0 : (v3 == 0) = false := by simpa using h0
  obtain ⟨b1, b2, b3, b4⟩ := low_b h h0
  simp only [e0, _root_.cond_false, (aim_p (N := N) h h0).2, bnd_eq, Option.isSome_some, _root_.cond_true, Option.getD_some, max2_eq, min2_eq]
  generalize lowOf v3 v4 v5 = lo at *
  generalize highOf v3 v4 v5 = hi at *
  have m1 : ∀ x : Int, (max x 1 == 0) = false := by intro x; simp; omega
  by_cases hn : n < 0
  ·simp only [decide_eq_true hn, _root_.cond_true]
  ·simp only [decide_eq_false hn, _root_.cond_false, m1, Bool.not_false, _root_.cond_true]
   by_cases hl : n < lo
   ·have w1 : IntKind.wrap .i64 (lo - n) = lo - n := wrapI (by omega) (by omega)
    have w2 : IntKind.wrap .i64 (1000 * (lo - n)) = 1000 * (lo - n) := wrapI (by omega) (by omega)
    have q := tdiv_b (a := 1000 * (lo - n)) (b := max lo 1) (by omega) (by omega)
    have w3 : IntKind.wrap .i64 ((1000 * (lo - n)).tdiv (max lo 1)) = (1000 * (lo - n)).tdiv (max lo 1) := wrapI (by omega) (by omega)
    simp only [decide_eq_true hl, _root_.cond_true, w1, w2, w3]
   ·by_cases hh : n > hi
    ·have w1 : IntKind.wrap .i64 (n - hi) = n - hi := wrapI (by omega) (by omega)
     have w2 : IntKind.wrap .i64 (1000 * (n - hi)) = 1000 * (n - hi) := wrapI (by omega) (by omega)
     have q := tdiv_b (a := 1000 * (n - hi)) (b := max hi 1) (by omega) (by omega)
     have w3 : IntKind.wrap .i64 ((1000 * (n - hi)).tdiv (max hi 1)) = (1000 * (n - hi)).tdiv (max hi 1) := wrapI (by omega) (by omega)
     simp only [decide_eq_false hl, decide_eq_true hh, _root_.cond_true, _root_.cond_false, w1, w2, w3]
    ·simp only [decide_eq_false hl, decide_eq_false hh, _root_.cond_false]
end Go.Proofs.YtpnacmnpahjpoaaGreatDoor

namespace Go.Proofs.YtpnacmnpahjpoaaGreatDoor
open Go Go.AM
set_option maxRecDepth 100000
set_option maxHeartbeats 4000000
variable {N : Nat}
def cstD (v3 v4 v5 : Int) (d : D) : D := .i (cst v3 v4 v5 d.toI)
def okN (xs : List D) : Prop := ∀ d ∈ xs, -1 ≤ d.toI ∧ d.toI ≤ 1000000000
theorem set_mid {out : List D} {d : Nat} {x : D} : (out ++ List.replicate (d + 1) (D.i 0)).set out.length x = (out ++ [x]) ++ List.replicate d (D.i 0) := by
 rw [List.set_append_right _ _ (Nat.le_refl _), Nat.sub_self, List.replicate_succ]
 simp
theorem cost_step {v3 v4 v5 n : Int} {out : List D} {d : Nat} {w : Int} (hl : 0 ≤ w) (hw : w = out.length) (h : rightB v3 v4 v5) (h1 : -1 ≤ n) (h2 : n ≤ 1000000000) :
  ∀ lo hi, (v3 ≠ 0 → lo = lowOf v3 v4 v5 ∧ hi = highOf v3 v4 v5) → G51x0x30002 N lo hi w n (bif v3 == 0 then true else (bif decide (n ≥ lo) then decide (n ≤ hi) else false)) (out ++ List.replicate (d + 1) (D.i 0)) = some ((out ++ [.i (cst v3 v4 v5 n)]) ++ List.replicate d (D.i 0)) := by
 intro lo hi hlh
 have htn : w.toNat = out.length := by omega
 have hin : inB w (out ++ List.replicate (d + 1) (D.i 0)).length = true := inB_of hl (by simp; omega)
 have hlt : out.length < (out ++ List.replicate (d + 1) (D.i 0)).length := by simp
 have same : ∀ c : Int, c = 0 → out ++ List.replicate (d + 1) (D.i 0) = (out ++ [.i c]) ++ List.replicate d (D.i 0) := by intro c hc; subst hc; simp [List.replicate_succ]
 unfold G51x0x30002 F51x0x30002 cst
 by_cases h0 : v3 = 0
 ·have : (v3 == 0) = true := by simpa using h0
  simp only [this, _root_.cond_true, same 0 rfl]
 ·have e0 : (v3 == 0) = false := by simpa using h0
  obtain ⟨rfl, rfl⟩ := hlh h0
  obtain ⟨b1, b2, b3, b4⟩ := low_b h h0
  simp only [e0, _root_.cond_false]
  generalize lowOf v3 v4 v5 = lo at *
  generalize highOf v3 v4 v5 = hi at *
  have m1 : ∀ x : Int, (max x 1 == 0) = false := by intro x; simp; omega
  unfold G51x0x36035 F51x0x36035 G51x0x24041 F51x0x24041
  simp only [hin, decide_eq_true hlt, _root_.cond_true, max2_eq, min2_eq, m1, Bool.not_false, bnd_eq, htn, set_mid]
  by_cases hn : n < 0
  ·have e1 : decide (n ≥ lo) = false := decide_eq_false (by omega)
   simp only [e1, _root_.cond_false, decide_eq_true hn, _root_.cond_true, Option.isSome_some, Option.getD_some]
  ·by_cases hl' : n < lo
   ·have e1 : decide (n ≥ lo) = false := decide_eq_false (by omega)
    have w1 : IntKind.wrap .i64 (lo - n) = lo - n := wrapI (by omega) (by omega)
    have w2 : IntKind.wrap .i64 (1000 * (lo - n)) = 1000 * (lo - n) := wrapI (by omega) (by omega)
    have q := tdiv_b (a := 1000 * (lo - n)) (b := max lo 1) (by omega) (by omega)
    have w3 : IntKind.wrap .i64 ((1000 * (lo - n)).tdiv (max lo 1)) = (1000 * (lo - n)).tdiv (max lo 1) := wrapI (by omega) (by omega)
    simp only [e1, _root_.cond_false, decide_eq_false hn, decide_eq_true hl', _root_.cond_true, Option.isSome_some, Option.getD_some, w1, w2, w3]
   ·have e1 : decide (n ≥ lo) = true := decide_eq_true (by omega)
    by_cases hh : n > hi
    ·have e2 : decide (n ≤ hi) = false := decide_eq_false (by omega)
     have w1 : IntKind.wrap .i64 (n - hi) = n - hi := wrapI (by omega) (by omega)
     have w2 : IntKind.wrap .i64 (1000 * (n - hi)) = 1000 * (n - hi) := wrapI (by omega) (by omega)
     have q := tdiv_b (a := 1000 * (n - hi)) (b := max hi 1) (by omega) (by omega)
     have w3 : IntKind.wrap .i64 ((1000 * (n - hi)).tdiv (max hi 1)) = (1000 * (n - hi)).tdiv (max hi 1) := wrapI (by omega) (by omega)
     simp only [e1, e2, _root_.cond_false, decide_eq_false hn, decide_eq_false hl', decide_eq_true hh, _root_.cond_true, Option.isSome_some, Option.getD_some, w1, w2, w3]
    ·have e2 : decide (n ≤ hi) = true := decide_eq_true (by omega)
     simp only [e1, e2, _root_.cond_true, _root_.cond_false, decide_eq_false hn, decide_eq_false hl', decide_eq_false hh, same 0 rfl]
theorem cost_loop {v3 v4 v5 : Int} {xs : List D} (h : rightB v3 v4 v5) (hx : okN xs) (hlen : xs.length ≤ 1000000) (lo hi : Int) (hlh : v3 ≠ 0 → lo = lowOf v3 v4 v5 ∧ hi = highOf v3 v4 v5) :
  ∀ (d m : Nat) (w : Int) (out : List D), d < m → 0 ≤ w → w + d = xs.length → w = out.length → L51x0x18 N (R := LD) lo hi xs xs.length v3 m w (out ++ List.replicate d (D.i 0)) (fun p => some p) = some (out ++ (xs.drop w.toNat).map (cstD v3 v4 v5))
 | d, 0, w, out, hm, _, _, _ => by omega
 | 0, m + 1, w, out, hm, h0, h1, h2 => by
  have : ¬ w < (xs.length : Int) := by omega
  have hd : xs.drop w.toNat = [] := List.drop_eq_nil_of_le (by omega)
  simp only [L51x0x18, S51x0x18, decide_eq_false this, _root_.cond_false, hd, List.replicate_zero, List.map_nil, List.append_nil]
 | d + 1, m + 1, w, out, hm, h0, h1, h2 => by
  have hlt : w < (xs.length : Int) := by omega
  have hi' : inB w xs.length = true := inB_of h0 (by omega)
  have hw : IntKind.wrap .i64 (w + 1) = w + 1 := wrapI (by omega) (by omega)
  have hn : w.toNat < xs.length := by omega
  have hmem := hx (xs.getD w.toNat (.i 0)) (by rw [List.getD_eq_getElem?_getD, List.getElem?_eq_getElem hn]; exact List.getElem_mem hn)
  have hs := cost_step (N := N) (d := d) h0 h2 h hmem.1 hmem.2 lo hi hlh
  have ih := cost_loop h hx hlen lo hi hlh d m (w + 1) (out ++ [.i (cst v3 v4 v5 (xs.getD w.toNat (.i 0)).toI)]) (by omega) (by omega) (by omega) (by simp; omega)
  have hd : xs.drop w.toNat = xs.getD w.toNat (.i 0) :: xs.drop (w + 1).toNat := by
   rw [List.drop_eq_getElem_cons hn, List.getD_eq_getElem?_getD, List.getElem?_eq_getElem hn]
   congr 2
   omega
  simp only [L51x0x18, S51x0x18, decide_eq_true hlt, _root_.cond_true, hi', bnd_eq, hs, Option.isSome_some, Option.getD_some, hw, ih]
  rw [hd]
  simp [cstD]
end Go.Proofs.YtpnacmnpahjpoaaGreatDoor

namespace Go.Proofs.YtpnacmnpahjpoaaGreatDoor
open Go Go.AM
set_option maxRecDepth 100000
set_option maxHeartbeats 4000000
variable {N : Nat}
theorem costs_p (hN : maxLen < N) {v3 v4 v5 : Int} {xs : List D} (h : rightB v3 v4 v5) (hx : okN xs) (hlen : xs.length ≤ 1000000) : G51x0 N v3 v4 v5 xs = some (xs.map (cstD v3 v4 v5)) := by
 have hM : maxLen = 9223372036854775807 := rfl
 obtain ⟨lo, hi, e1, hlh⟩ : ∃ lo hi, G51x0x11 N v4 v5 (v3 == 4) v4 v5 = some (lo, hi) ∧ (v3 ≠ 0 → lo = lowOf v3 v4 v5 ∧ hi = highOf v3 v4 v5) := by
  by_cases h0 : v3 = 0
  ·exact ⟨v4, v5, by subst h0; rfl, fun hh => absurd h0 hh⟩
  ·exact ⟨_, _, (aim_p h h0).1, fun _ => ⟨rfl, rfl⟩⟩
 have hl := cost_loop (N := N) h hx hlen lo hi hlh xs.length N 0 [] (by omega) (by omega) (by omega) (by simp)
 rw [List.nil_append, List.nil_append] at hl
 have q1 : xs.length * 8 ≤ room := by unfold room; omega
 have q2 : xs.length ≤ strMax := by unfold strMax; omega
 have c1 : (((decide (0 ≤ (xs.length : Int))) && (decide ((xs.length : Int) ≤ (xs.length : Int)))) && (decide (xs.length * 8 ≤ room) && decide (xs.length ≤ strMax))) = true := by
  simp [q1, q2]
 unfold G51x0 F51x0 G51x0x18
 simp only [e1, bnd_eq, Option.isSome_some, _root_.cond_true, Option.getD_some, Int.toNat_natCast, c1, hl]
 rfl
theorem ref_loop {v3 v4 v5 : Int} {xs : List D} (h : rightB v3 v4 v5) (hx : okN xs) (hlen : xs.length ≤ 1000000) :
  ∀ (d m : Nat) (w : Int) (nl : Bool) (out : List D), d < m → 0 ≤ w → w + d = xs.length → w = out.length → ∃ b, L23x0x39 N (R := Bool × LD) xs xs.length v3 v4 v5 m w nl out (fun p => some p) = some (b, out ++ (xs.drop w.toNat).map (cstD v3 v4 v5))
 | d, 0, w, nl, out, hm, _, _, _ => by omega
 | 0, m + 1, w, nl, out, hm, h0, h1, h2 => by
  have : ¬ w < (xs.length : Int) := by omega
  have hd : xs.drop w.toNat = [] := List.drop_eq_nil_of_le (by omega)
  exact ⟨nl, by simp only [L23x0x39, S23x0x39, decide_eq_false this, _root_.cond_false, hd, List.map_nil, List.append_nil]⟩
 | d + 1, m + 1, w, nl, out, hm, h0, h1, h2 => by
  have hlt : w < (xs.length : Int) := by omega
  have hi' : inB w xs.length = true := inB_of h0 (by omega)
  have hw : IntKind.wrap .i64 (w + 1) = w + 1 := wrapI (by omega) (by omega)
  have hn : w.toNat < xs.length := by omega
  have hmem := hx (xs.getD w.toNat (.i 0)) (by rw [List.getD_eq_getElem?_getD, List.getElem?_eq_getElem hn]; exact List.getElem_mem hn)
  have q1 : (out.length + 1) * 8 ≤ room := by unfold room; omega
  have q2 : out.length + 1 ≤ strMax := by unfold strMax; omega
  have c1 : (decide ((out.length + 1) * 8 ≤ room) && decide ((out.length + 1) ≤ strMax)) = true := by simp [q1, q2]
  obtain ⟨b, ih⟩ := ref_loop h hx hlen d m (w + 1) false (out ++ [.i (cst v3 v4 v5 (xs.getD w.toNat (.i 0)).toI)]) (by omega) (by omega) (by omega) (by simp; omega)
  have hd : xs.drop w.toNat = xs.getD w.toNat (.i 0) :: xs.drop (w + 1).toNat := by
   rw [List.drop_eq_getElem_cons hn, List.getD_eq_getElem?_getD, List.getElem?_eq_getElem hn]
   congr 2
   omega
  refine ⟨b, ?_⟩
  simp only [L23x0x39, S23x0x39, decide_eq_true hlt, _root_.cond_true, hi', bnd_eq, cost_q h hmem.1 hmem.2, Option.isSome_some, Option.getD_some, hw, c1, ih]
  rw [hd]
  simp [cstD]
def strB (xs : List D) : Bool := xs.all fun d => decide (-1 ≤ d.toI) && decide (d.toI ≤ 1000000000)
theorem str_loop {xs : List D} (hlen : xs.length ≤ 1000000) : ∀ (d m : Nat) (w : Int), d < m → 0 ≤ w → w + d = xs.length →
  L50x0x12 N (R := Sum Unit Unit) xs xs.length m w (fun p => some (.inl p)) (fun p => some (.inr p)) = some (bif strB (xs.drop w.toNat) then .inr () else .inl ()) ∧ L52x0x12 N (R := Sum Unit Unit) xs xs.length m w (fun p => some (.inl p)) (fun p => some (.inr p)) = some (bif strB (xs.drop w.toNat) then .inr () else .inl ())
 | d, 0, w, hm, _, _ => by omega
 | 0, m + 1, w, hm, h0, h1 => by
  have : ¬ w < (xs.length : Int) := by omega
  have hd : xs.drop w.toNat = [] := List.drop_eq_nil_of_le (by omega)
  constructor
  ·simp only [L50x0x12, S50x0x12, decide_eq_false this, _root_.cond_false, hd]; rfl
  ·simp only [L52x0x12, S52x0x12, decide_eq_false this, _root_.cond_false, hd]; rfl
 | d + 1, m + 1, w, hm, h0, h1 => by
  have hlt : w < (xs.length : Int) := by omega
  have hi' : inB w xs.length = true := inB_of h0 (by omega)
  have hw : IntKind.wrap .i64 (w + 1) = w + 1 := wrapI (by omega) (by omega)
  have hn : w.toNat < xs.length := by omega
  have hd : xs.drop w.toNat = xs.getD w.toNat (.i 0) :: xs.drop (w + 1).toNat := by
   rw [List.drop_eq_getElem_cons hn, List.getD_eq_getElem?_getD, List.getElem?_eq_getElem hn]
   congr 2
   omega
  obtain ⟨i1, i2⟩ := str_loop hlen d m (w + 1) (by omega) (by omega) (by omega)
  have hs : strB (xs.drop w.toNat) = ((decide (-1 ≤ (xs.getD w.toNat (.i 0)).toI) && decide ((xs.getD w.toNat (.i 0)).toI ≤ 1000000000)) && strB (xs.drop (w + 1).toNat)) := by rw [hd]; rfl
  rw [hs]
  constructor
  ·simp only [L50x0x12, S50x0x12, decide_eq_true hlt, _root_.cond_true, hi', bnd_eq, V78x0, F78x0, hw, i1]
   generalize (xs.getD w.toNat (.i 0)).toI = n
   by_cases a1 : -1 ≤ n
   ·by_cases a2 : n ≤ 1000000000
    ·rw [decide_eq_true (show n ≥ -1 from a1), decide_eq_true a2]; rfl
    ·rw [decide_eq_true (show n ≥ -1 from a1), decide_eq_false a2]; rfl
   ·rw [decide_eq_false (show ¬ n ≥ -1 from a1)]; rfl
  ·simp only [L52x0x12, S52x0x12, decide_eq_true hlt, _root_.cond_true, hi', bnd_eq, hw, i2]
   generalize (xs.getD w.toNat (.i 0)).toI = n
   by_cases a1 : -1 ≤ n
   ·by_cases a2 : n ≤ 1000000000
    ·have b1 : ¬ n < -1 := by omega
     have b2 : ¬ n > 1000000000 := by omega
     simp [a1, a2, b1, b2]
    ·have b1 : ¬ n < -1 := by omega
     have b2 : n > 1000000000 := by omega
     simp [a1, a2, b1, b2]
   ·have b1 : n < -1 := by omega
    simp [a1, b1]
end Go.Proofs.YtpnacmnpahjpoaaGreatDoor

namespace Go.Proofs.YtpnacmnpahjpoaaGreatDoor
open Go Go.AM
set_option maxRecDepth 100000
set_option maxHeartbeats 4000000
variable {N : Nat}
def strE (xs : List D) : Int := bif decide ((xs.length : Int) > 1000000) then 3 else bif strB xs then 0 else 9
theorem str_eq (hN : maxLen < N) (xs : List D) : G50x0 N xs = some (strE xs) ∧ G52x0 N xs = some (strE xs) := by
 have hM : maxLen = 9223372036854775807 := rfl
 unfold G50x0 F50x0 G52x0 F52x0 strE
 by_cases hl : (xs.length : Int) > 1000000
 ·simp only [decide_eq_true hl, _root_.cond_true, and_self]
 ·obtain ⟨h1, h2⟩ := str_loop (N := N) (xs := xs) (by omega) xs.length N 0 (by omega) (by omega) (by omega)
  simp only [decide_eq_false hl, _root_.cond_false, bnd_eq, G50x0x12, G52x0x12, h1, h2]
  have hd : xs.drop (0 : Int).toNat = xs := rfl
  rw [hd]
  cases strB xs <;> exact ⟨rfl, rfl⟩
theorem strE_ok {xs : List D} (h : strE xs = 0) : xs.length ≤ 1000000 ∧ okN xs := by
 unfold strE at h
 by_cases hl : (xs.length : Int) > 1000000
 ·rw [decide_eq_true hl] at h; cases h
 ·rw [decide_eq_false hl] at h
  cases hs : strB xs with
  | false => rw [hs] at h; cases h
  | true =>
   refine ⟨by omega, fun d hd => ?_⟩
   have := List.all_eq_true.1 hs d hd
   simpa using this
theorem costs_both (hN : maxLen < N) (v3 v4 v5 : Int) (xs : List D) : ∃ b1 b2 l e, G22x0 N v3 v4 v5 xs = some (b1, l, e) ∧ G23x0 N v3 v4 v5 xs = some (b2, l, e) ∧ l.length ≤ 1000000 ∧ (e = 0 → rightB v3 v4 v5 ∧ l = xs.map (cstD v3 v4 v5)) := by
 have hM : maxLen = 9223372036854775807 := rfl
 obtain ⟨s1, s2⟩ := str_eq hN xs
 unfold G22x0 F22x0 G23x0 F23x0
 simp only [bnd_eq, V48x0, F48x0, V49x0, F49x0, s1, s2, Option.isSome_some, Option.getD_some, _root_.cond_true]
 by_cases a1 : 0 ≤ v3 ∧ v3 ≤ 4
 ·have e1 : (bif decide (v3 ≥ 0) then decide (v3 ≤ 4) else false) = true := by simp [a1.1, a1.2]
  have e2 : (bif decide (v3 < 0) then true else decide (v3 > 4)) = false := by
   have q1 : ¬ v3 < 0 := by omega
   have q2 : ¬ v3 > 4 := by omega
   simp [q1, q2]
  simp only [e1, e2, Bool.not_true, _root_.cond_false]
  -- the aim
  have aim : (∃ c, c ≠ 0 ∧ G22x0x12002 N (v3 == 0) v4 v5 = some (.inr c) ∧ G23x0x14 N (decide (v3 > 0)) v4 v5 = some (.inl c)) ∨ (rightB v3 v4 v5 ∧ G22x0x12002 N (v3 == 0) v4 v5 = some (.inl ()) ∧ G23x0x14 N (decide (v3 > 0)) v4 v5 = some (.inr ())) := by
   unfold G22x0x12002 F22x0x12002 G23x0x14 F23x0x14 V22x0x13 F22x0x13 V23x0x13 F23x0x13 V48x0 F48x0 V49x0 F49x0
   by_cases h0 : v3 = 0
   ·subst h0
    exact .inr ⟨⟨by omega, by omega, fun h => absurd rfl h⟩, rfl, rfl⟩
   ·have q0 : (v3 == 0) = false := by simpa using h0
    have q1 : v3 > 0 := by omega
    simp only [q0, decide_eq_true q1, _root_.cond_true, _root_.cond_false, bnd_eq]
    by_cases b1 : 1 ≤ v4 ∧ v4 ≤ 40000
    ·by_cases b2 : 1 ≤ v5 ∧ v5 ≤ 40000
     ·by_cases b3 : v4 > v5
      ·left
       refine ⟨10, by decide, ?_, ?_⟩
       ·simp [b1.1, b1.2, b2.1, b2.2, b3]
       ·have r1 : ¬ v4 < 1 := by omega
        have r2 : ¬ v4 > 40000 := by omega
        have r3 : ¬ v5 < 1 := by omega
        have r4 : ¬ v5 > 40000 := by omega
        simp [r1, r2, r3, r4, b3]
      ·right
       refine ⟨⟨a1.1, a1.2, fun _ => ⟨b1.1, by omega, b2.2⟩⟩, ?_, ?_⟩
       ·simp [b1.1, b1.2, b2.1, b2.2, b3]
       ·have r1 : ¬ v4 < 1 := by omega
        have r2 : ¬ v4 > 40000 := by omega
        have r3 : ¬ v5 < 1 := by omega
        have r4 : ¬ v5 > 40000 := by omega
        simp [r1, r2, r3, r4, b3]
     ·left
      refine ⟨9, by decide, ?_, ?_⟩
      ·have : (bif decide (v5 ≥ 1) then decide (v5 ≤ 40000) else false) = false := by
        by_cases r : v5 ≥ 1
        ·have : ¬ v5 ≤ 40000 := by omega
         simp [r, this]
        ·simp [r]
       simp [b1.1, b1.2, this]
      ·have : (bif decide (v5 < 1) then true else decide (v5 > 40000)) = true := by
        by_cases r : v5 < 1
        ·simp [r]
        ·have : v5 > 40000 := by omega
         simp [r, this]
       simp [this]
    ·left
     refine ⟨9, by decide, ?_, ?_⟩
     ·have : (bif decide (v4 ≥ 1) then decide (v4 ≤ 40000) else false) = false := by
       by_cases r : v4 ≥ 1
       ·have : ¬ v4 ≤ 40000 := by omega
        simp [r, this]
       ·simp [r]
      simp [this]
     ·have : (bif decide (v4 < 1) then true else decide (v4 > 40000)) = true := by
       by_cases r : v4 < 1
       ·simp [r]
       ·have : v4 > 40000 := by omega
        simp [r, this]
      simp [this]
  rcases aim with ⟨c, hc, e3, e4⟩ | ⟨hr, e3, e4⟩
  ·exact ⟨true, true, [], c, by rw [e3]; rfl, by rw [e4]; rfl, by simp, fun h => absurd h hc⟩
  ·simp only [e3, e4, inlB, _root_.cond_true, _root_.cond_false, inrQ, Option.isSome_some]
   by_cases hs : strE xs = 0
   ·obtain ⟨hl, hx⟩ := strE_ok hs
    have e5 : (strE xs != 0) = false := by simp [hs]
    obtain ⟨b, h3⟩ := ref_loop (N := N) hr hx hl xs.length N 0 true [] (by omega) (by omega) (by omega) (by simp)
    simp only [e5, _root_.cond_false, costs_p hN hr hx hl, Option.isSome_some, _root_.cond_true, Option.getD_some, G23x0x39, h3, List.nil_append]
    exact ⟨_, _, _, _, rfl, rfl, by simpa using hl, fun _ => ⟨hr, rfl⟩⟩
   ·have e5 : (strE xs != 0) = true := by simpa using hs
    simp only [e5, _root_.cond_true]
    exact ⟨_, _, _, _, rfl, rfl, by simp, fun h => absurd h hs⟩
 ·have e1 : (bif decide (v3 ≥ 0) then decide (v3 ≤ 4) else false) = false := by
   by_cases r : v3 ≥ 0
   ·have : ¬ v3 ≤ 4 := by omega
    simp [r, this]
   ·simp [r]
  have e2 : (bif decide (v3 < 0) then true else decide (v3 > 4)) = true := by
   by_cases r : v3 < 0
   ·simp [r]
   ·have : v3 > 4 := by omega
    simp [r, this]
  simp only [e1, e2, Bool.not_false, _root_.cond_true]
  exact ⟨_, _, _, _, rfl, rfl, by simp, fun h => by cases h⟩
end Go.Proofs.YtpnacmnpahjpoaaGreatDoor

namespace Go.Proofs.YtpnacmnpahjpoaaGreatDoor
open Go Go.AM
set_option maxRecDepth 100000
set_option maxHeartbeats 4000000
variable {N : Nat}
theorem ediv_mono {a b c : Int} (hc : 0 < c) (h : a ≤ b) : a / c ≤ b / c := Int.ediv_le_ediv hc h
theorem cst_in {v3 v4 v5 n : Int} (h0 : v3 ≠ 0) (h4 : v3 ≠ 4) (h1 : 0 ≤ n) (h2 : v4 ≤ n) (h3 : n ≤ v5) : cst v3 v4 v5 n = 0 := by
 unfold cst lowOf highOf
 rw [show (v3 == 0) = false by simp [h0], show (v3 == 4) = false by simp [h4], decide_eq_false (show ¬ n < 0 by omega)]
 simp only [_root_.cond_false]
 rw [decide_eq_false (show ¬ n < v4 by omega), decide_eq_false (show ¬ n > v5 by omega)]
 rfl
theorem cst_high {v3 v4 v5 n : Int} (h0 : v3 ≠ 0) (h4 : v3 ≠ 4) (h1 : 1 ≤ v4) (h2 : v4 ≤ v5) (h3 : v5 < n) : cst v3 v4 v5 n = min (1000 * (n - v5) / v5) 1000 := by
 unfold cst lowOf highOf
 rw [show (v3 == 0) = false by simp [h0], show (v3 == 4) = false by simp [h4], decide_eq_false (show ¬ n < 0 by omega)]
 simp only [_root_.cond_false]
 rw [decide_eq_false (show ¬ n < v4 by omega), decide_eq_true (show n > v5 by omega), show max v5 1 = v5 by omega, Int.tdiv_eq_ediv_of_nonneg (a := 1000 * (n - v5)) (by omega)]
 rfl
theorem cst_low {v3 v4 v5 n : Int} (h0 : v3 ≠ 0) (h4 : v3 ≠ 4) (h1 : 1 ≤ v4) (h2 : 0 ≤ n) (h3 : n < v4) : cst v3 v4 v5 n = min (1000 * (v4 - n) / v4) 1000 := by
 unfold cst lowOf highOf
 rw [show (v3 == 0) = false by simp [h0], show (v3 == 4) = false by simp [h4], decide_eq_false (show ¬ n < 0 by omega)]
 simp only [_root_.cond_false]
 rw [decide_eq_true h3, show max v4 1 = v4 by omega, Int.tdiv_eq_ediv_of_nonneg (by omega)]
 rfl
theorem law5 (hN : maxLen < N) (v3 v4 v5 v8 v9 : Int) : G5x0 N v3 v4 v5 v8 v9 = some true := by
 unfold G5x0 F5x0
 simp only [bnd_eq]
 by_cases hc : v8 < 0 ∨ v8 > 1000000 ∨ v9 < 0 ∨ v9 > 1000000
 ·have : (bif (bif (bif (decide (v8 < 0)) then true else (decide (v8 > 1000000))) then true else (decide (v9 < 0))) then true else (decide (v9 > 1000000))) = true := by
   simp only [Bool.cond_true_left, Bool.or_eq_true, decide_eq_true_eq]
   omega
  rw [this]
  rfl
 have : (bif (bif (bif (decide (v8 < 0)) then true else (decide (v8 > 1000000))) then true else (decide (v9 < 0))) then true else (decide (v9 > 1000000))) = false := by
  rw [← Bool.not_eq_true]
  simp only [Bool.cond_true_left, Bool.or_eq_true, decide_eq_true_eq]
  omega
 rw [this]
 have a1 : 0 ≤ v8 := by omega
 have a2 : v8 ≤ 1000000 := by omega
 have a3 : 0 ≤ v9 := by omega
 have a4 : v9 ≤ 1000000 := by omega
 rw [wrapI (by omega) (by omega)]
 obtain ⟨b1, b2, l, e, h1, _, _, h3⟩ := costs_both hN v3 v4 v5 [.i v8, .i (v8 + v9)]
 rw [h1]
 simp only [Option.isSome_some, _root_.cond_true, _root_.cond_false, Option.getD_some]
 by_cases he : e = 0
 ·obtain ⟨⟨g1, g2, g3⟩, rfl⟩ := h3 he
  by_cases z0 : v3 = 0
  ·rw [show (v3 == 0) = true by simp [z0]]
   simp [Bool.cond_true_right]
  by_cases z4 : v3 = 4
  ·rw [show (v3 == 4) = true by simp [z4]]
   simp [Bool.cond_true_right]
  obtain ⟨r1, r2, r3⟩ := g3 z0
  rw [show (e != 0) = false by simp [he], show (v3 == 0) = false by simp [z0], show (v3 == 4) = false by simp [z4]]
  simp only [_root_.cond_false, List.map_cons, List.map_nil, cstD, D.toI]
  rw [show (bif ((([(.i (cst v3 v4 v5 v8) : D), .i (cst v3 v4 v5 (v8 + v9))].length : Nat) : Int) != 2) then some false else (bif bif decide (v8 ≥ v4) then decide (v8 ≤ v5) else false then
     (bif (G5x0x28 N [.i (cst v3 v4 v5 v8), .i (cst v3 v4 v5 (v8 + v9))]).isSome then some ((G5x0x28 N [.i (cst v3 v4 v5 v8), .i (cst v3 v4 v5 (v8 + v9))]).getD default) else none)
    else bif decide (v8 > v5) then (bif (G5x0x34 N v8 [.i (cst v3 v4 v5 v8), .i (cst v3 v4 v5 (v8 + v9))] v5).isSome then some ((G5x0x34 N v8 [.i (cst v3 v4 v5 v8), .i (cst v3 v4 v5 (v8 + v9))] v5).getD default) else none)
    else (bif (G5x0x37 N v8 v9 [.i (cst v3 v4 v5 v8), .i (cst v3 v4 v5 (v8 + v9))] v4).isSome then some ((G5x0x37 N v8 v9 [.i (cst v3 v4 v5 v8), .i (cst v3 v4 v5 (v8 + v9))] v4).getD default) else none))) = _ from rfl]
  by_cases c1 : v4 ≤ v8 ∧ v8 ≤ v5
  ·have e0 := cst_in z0 z4 a1 c1.1 c1.2
   rw [decide_eq_true (show v8 ≥ v4 from c1.1), decide_eq_true c1.2, e0]
   rfl
  rw [show (bif decide (v8 ≥ v4) then decide (v8 ≤ v5) else false) = false by
   rw [← Bool.not_eq_true]
   simp only [Bool.cond_false_right, Bool.and_eq_true, decide_eq_true_eq]
   omega]
  by_cases c2 : v8 > v5
  ·have e1 := cst_high z0 z4 r1 r2 c2
   have e2 := cst_high (n := v8 + v9) z0 z4 r1 r2 (by omega)
   have m := ediv_mono (a := 1000 * (v8 - v5)) (b := 1000 * (v8 + v9 - v5)) (c := v5) (by omega) (by omega)
   have q : 0 < 1000 * (v8 - v5) / v5 ↔ v5 ≤ 1000 * (v8 - v5) := by
    rw [Int.lt_iff_add_one_le, Int.le_ediv_iff_mul_le (by omega)]
    omega
   have hg : G5x0x34 N v8 [.i (cst v3 v4 v5 v8), .i (cst v3 v4 v5 (v8 + v9))] v5 = some true := by
    unfold G5x0x34 F5x0x34
    rw [e1, e2]
    show (bif decide (min (1000 * (v8 + v9 - v5) / v5) 1000 ≥ min (1000 * (v8 - v5) / v5) 1000) then (bif (decide (min (1000 * (v8 - v5) / v5) 1000 > 0) == decide (IntKind.wrap .i64 (1000 * IntKind.wrap .i64 (v8 - v5)) ≥ v5)) then some true else some false) else some false) = _
    rw [wrapI (x := v8 - v5) (by omega) (by omega), wrapI (by omega) (by omega), decide_eq_true (by omega)]
    have : (decide (min (1000 * (v8 - v5) / v5) 1000 > 0) == decide (1000 * (v8 - v5) ≥ v5)) = true := by
     rw [beq_iff_eq, decide_eq_decide]
     omega
    rw [this]
    rfl
   rw [decide_eq_true c2, hg]
   rfl
  rw [decide_eq_false c2]
  have hg : G5x0x37 N v8 v9 [.i (cst v3 v4 v5 v8), .i (cst v3 v4 v5 (v8 + v9))] v4 = some true := by
   unfold G5x0x37 F5x0x37
   rw [wrapI (by omega) (by omega)]
   by_cases c3 : v8 + v9 > v4
   ·rw [decide_eq_true c3]; rfl
   rw [decide_eq_false c3]
   have e1 := cst_low (v5 := v5) z0 z4 r1 a1 (show v8 < v4 by omega)
   have hle : cst v3 v4 v5 (v8 + v9) ≤ cst v3 v4 v5 v8 := by
    rw [e1]
    have p1 : 0 ≤ 1000 * (v4 - v8) / v4 := Int.ediv_nonneg (by omega) (by omega)
    by_cases c4 : v8 + v9 = v4
    ·rw [cst_in z0 z4 (by omega) (by omega) (by omega)]
     omega
    ·rw [cst_low z0 z4 r1 (by omega) (by omega)]
     have m := ediv_mono (a := 1000 * (v4 - (v8 + v9))) (b := 1000 * (v4 - v8)) (c := v4) (by omega) (by omega)
     omega
   show (bif decide (cst v3 v4 v5 (v8 + v9) ≤ cst v3 v4 v5 v8) then some true else some false) = _
   rw [decide_eq_true hle]
   rfl
  rw [hg]
  rfl
 ·rw [show (e != 0) = true by simp [he]]
  rfl
end Go.Proofs.YtpnacmnpahjpoaaGreatDoor

namespace Go.Proofs.YtpnacmnpahjpoaaGreatDoor
open Go Go.AM
set_option maxRecDepth 100000
set_option maxHeartbeats 4000000
theorem kinds39 : kinds Tryz.prog 39 = [.int .i64, .int .i64, .str, .int .i64, .int .i64, .int .i64, .int .i64, .int .i64] := by kernel_rfl
theorem kinds3 : kinds Tryz.prog 3 = [.int .i64] := by kernel_rfl
theorem int1 {m : Nat} {k : IntKind} {d : D} (h : TyK Tryz.prog m (.int k) d) : ∃ i, d = .i i := by
 cases m with
 | zero => exact h.elim
 | succ m => obtain ⟨i, h1, _⟩ := h; exact ⟨i, h1⟩
theorem str1 {m : Nat} {d : D} (h : TyK Tryz.prog m .str d) : ∃ s, d = .s s ∧ s.length ≤ maxLen := by
 cases m with
 | zero => exact h.elim
 | succ m => exact h
theorem arg39 {m : Nat} {ds : List D} (h : ArgOk Tryz.prog m 39 ds) : ∃ a b s c d e f g, ds = [.i a, .i b, .s s, .i c, .i d, .i e, .i f, .i g] := by
 unfold ArgOk at h
 rw [kinds39] at h
 obtain ⟨_, _, rfl, h0, h⟩ := all2_cons h
 obtain ⟨_, _, rfl, h1, h⟩ := all2_cons h
 obtain ⟨_, _, rfl, h2, h⟩ := all2_cons h
 obtain ⟨_, _, rfl, h3, h⟩ := all2_cons h
 obtain ⟨_, _, rfl, h4, h⟩ := all2_cons h
 obtain ⟨_, _, rfl, h5, h⟩ := all2_cons h
 obtain ⟨_, _, rfl, h6, h⟩ := all2_cons h
 obtain ⟨_, _, rfl, h7, h⟩ := all2_cons h
 obtain rfl := all2_nil h
 obtain ⟨a, rfl⟩ := int1 h0
 obtain ⟨b, rfl⟩ := int1 h1
 obtain ⟨s, rfl, _⟩ := str1 h2
 obtain ⟨c, rfl⟩ := int1 h3
 obtain ⟨d, rfl⟩ := int1 h4
 obtain ⟨e, rfl⟩ := int1 h5
 obtain ⟨f, rfl⟩ := int1 h6
 obtain ⟨g, rfl⟩ := int1 h7
 exact ⟨a, b, s, c, d, e, f, g, rfl⟩
theorem argI {m : Nat} {ds : List D} (h : ArgOk Tryz.prog m 3 ds) : ∃ a, ds = [.i a] := by
 unfold ArgOk at h
 rw [kinds3] at h
 obtain ⟨_, _, rfl, h0, h⟩ := all2_cons h
 obtain rfl := all2_nil h
 obtain ⟨a, rfl⟩ := int1 h0
 exact ⟨a, rfl⟩
theorem callLaw (m : Nat) (dss : List (List D)) (h : All2 (ArgOk Tryz.prog m) Tryz.f5.params.toList dss) : CallOk Tryz.prog 5 (argVs Tryz.prog Tryz.f5.params.toList dss) [] ([.c (.b true)], []) := by
 have hp : Tryz.f5.params.toList = [39, 3, 3] := by kernel_rfl
 rw [hp] at h ⊢
 match dss, h with
 | [d0, d1, d2], ⟨h0, h1, h2, _⟩ =>
  obtain ⟨a, b, s, c, d, e, f, g, rfl⟩ := arg39 h0
  obtain ⟨i, rfl⟩ := argI h1
  obtain ⟨j, rfl⟩ := argI h2
  refine ok5x0 18446744073709551616 _ _ (A5x0 18446744073709551616 [.i a, .i b, .s s, .i c, .i d, .i e, .i f, .i g, .i i, .i j]) (by kernel_rfl) _ ?_
  have e : A5x0 18446744073709551616 [.i a, .i b, .s s, .i c, .i d, .i e, .i f, .i g, .i i, .i j] = bnd (G5x0 18446744073709551616 c d e i j) fun q => [(q.isSome, ([.c (.b (q.getD default))], []))] := by kernel_rfl
  rw [e, law5 (by decide) c d _ i j]
  rfl
theorem Tryz.own : ownKnob Tryz.prog.godebug = none := by kernel_rfl
theorem Tryz.laidOut : laidOutB Tryz.prog = true := by kernel_rfl
theorem bulkOk {H : Type} : BulkOk (Rows.uptoBulk : DataW H → Nat) Rows.uptoBulkAll := by
 refine ⟨fun l => ?_, fun l => ?_, ?_, fun e s => ?_, fun p => ?_, ?_, fun d r => ?_⟩
 ·cases l <;> simp [Rows.uptoBulk]
 ·simp [Rows.uptoBulk]
 ·simp [Rows.uptoBulk]
 ·simp only [Rows.uptoBulk]; omega
 ·simp [Rows.uptoBulk]
 ·simp [Rows.uptoBulkAll]
 ·simp [Rows.uptoBulkAll]
theorem g0 : Tryz.prog.globalNamed "internal/bytealg.MaxLen" = some 2 := by kernel_rfl
theorem g1 : Tryz.prog.globalNamed "internal/strconv.uint64pow10" = some 7 := by kernel_rfl
theorem g2 : Tryz.prog.globalNamed "strconv.ErrSyntax" = some 5 := by kernel_rfl
theorem g3 : Tryz.prog.globalNamed "strconv.ErrRange" = some 6 := by kernel_rfl
theorem giW {W : World} (hs : W.ShapedOpen Tryz.prog) (hl : laidMetH Tryz.prog Rows.workoutCostsGrowRow.laid W) {M : Stab} (hM : ∀ b o, ¬ M b o) : GI Tryz.prog M W := by
 have hl : laidMet Tryz.prog Rows.workoutCostsGrowRow.laid W := hl
 refine gi_of g0 g1 g2 g3 ?_ ?_ ?_ ?_ hM
 ·exact gat_int (t := 3) (zero := #[.int .i64 0]) hs (of_decide_eq_true (by kernel_rfl)) (by kernel_rfl) rfl (by kernel_rfl) (by kernel_rfl) (by kernel_rfl)
 ·obtain ⟨ps, hv, _⟩ := hl
  obtain ⟨g, t, cs, fuel, p, q1, q2, q3, q4⟩ := laid_get (x := ("internal/strconv.uint64pow10", Rows.laid_internal_strconv_uint64pow10)) hv (by simp [Rows.workoutCostsGrowRow])
  obtain rfl := Option.some.inj ((show (Tryz.prog.globals[7]?).map (·.type) = some 194 by kernel_rfl).symm.trans (by rw [Option.some.inj (g1.symm.trans q1)]; exact q2))
  have hcs := Lib.cells_of_tab (k := .u64) (zs := (List.range 20).map fun i => ((10 ^ i : Nat) : Int)) (n := 20) (e := 95) (t := 194) (by kernel_rfl) (by kernel_rfl) (by kernel_rfl) (by kernel_rfl) (show DataW.trod _ _ _ _ _ _ fuel 194 cs.toList = some (Lib.tabData .u64 ((List.range 20).map fun i => ((10 ^ i : Nat) : Int)), p) from q4)
  refine gat_tab (k := .u64) (zs := (List.range 20).map fun i => ((10 ^ i : Nat) : Int)) g1 (show W.var? Tryz.prog _ = _ by rw [q3, ← hcs]) (by simp) fun i p z h1 h2 => ?_
  rw [List.getElem?_map] at h1 h2
  obtain ⟨j, j1, rfl⟩ := Option.map_eq_some_iff.1 h1
  rw [j1] at h2
  simp only [Option.map_some, Option.some.injEq] at h2
  subst h2
  rfl
 ·exact gat_err (t := 112) hl (show ("strconv.ErrSyntax", Rows.laid_strconv_ErrSyntax) ∈ Rows.workoutCostsGrowRow.laid by simp [Rows.workoutCostsGrowRow]) g2 (by kernel_rfl) (by kernel_rfl)
 ·exact gat_err (t := 112) hl (show ("strconv.ErrRange", Rows.laid_strconv_ErrRange) ∈ Rows.workoutCostsGrowRow.laid by simp [Rows.workoutCostsGrowRow]) g3 (by kernel_rfl) (by kernel_rfl)
abbrev synS : ByteArray := { data := #[105, 110, 118, 97, 108, 105, 100, 32, 115, 121, 110, 116, 97, 120] }
abbrev rngS : ByteArray := { data := #[118, 97, 108, 117, 101, 32, 111, 117, 116, 32, 111, 102, 32, 114, 97, 110, 103, 101] }
noncomputable def low : Nat := (World.holding Tryz.prog default ⟨#[], #[], []⟩).heap.size
def tabOf {H : Type} : DataW H → Array Value
 | .agg l => (l.map fun | .lit (.int k n) => Value.int k n | _ => undef).toArray
 | _ => #[]
def setG (h : Array Obj) (g : Nat) (vs : Array Value) : Array Obj := h.modify g fun
 | .cells _ t fr => .cells vs t fr
 | o => o
def flatOf {H : Type} : DataW H → Array Value
 | .agg l => (l.flatMap fun | .agg r => r.map (fun | .lit (.int k n) => Value.int k n | _ => undef) | _ => []).toArray
 | _ => #[]
noncomputable def laidWorld (os : Os) : World :=
 let w0 := World.holding Tryz.prog os ⟨#[.cells #[.string synS] 192, .cells #[.string rngS] 192], #[], []⟩
 { w0 with heap := setG (setG (setG (setG (setG (setG (setG w0.heap 7 (tabOf (H := Unit) Rows.laid_internal_strconv_uint64pow10)) 5 #[.iface 190 (.pointer (some ⟨low, 0, none⟩))]) 6 #[.iface 190 (.pointer (some ⟨low + 1, 0, none⟩))])
   8 (tabOf (H := Unit) Rows.laid_math_bits_deBruijn32tab)) 9 (tabOf (H := Unit) Rows.laid_math_bits_deBruijn64tab)) 3 (tabOf Rows.laid_unicode_utf8_first)) 4 (flatOf (H := Unit) Rows.laid_unicode_utf8_acceptRanges) }
def arg0 : Value := .agg #[.int .i64 0, .int .i64 0, .string ⟨#[]⟩, .int .i64 0, .int .i64 0, .int .i64 0, .int .i64 0, .int .i64 0]
def arg1 : Value := .int .i64 0
def arg2 : Value := .int .i64 0
def dat0 {H : Type} : DataW H := .agg [.lit (.int .i64 0), .lit (.int .i64 0), .lit (.string []), .lit (.int .i64 0), .lit (.int .i64 0), .lit (.int .i64 0), .lit (.int .i64 0), .lit (.int .i64 0)]
def dat1 {H : Type} : DataW H := .lit (.int .i64 0)
def dat2 {H : Type} : DataW H := .lit (.int .i64 0)
theorem laid_met (os : Os) : laidMet Tryz.prog Rows.workoutCostsGrowRow.laid ((laidWorld os).forCall (fun _ _ => 0) ⟨#[], #[arg0, arg1, arg2], []⟩).memory :=
 laidMet_of_run' 8 (by kernel_rfl) (by kernel_rfl)
theorem reads (os : Os) {H : Type} (enc : TypeId × Value → H) : ∃ places, DataW.whole enc Tryz.prog ((laidWorld os).forCall (fun _ _ => 0) ⟨#[], #[arg0, arg1, arg2], []⟩).memory Tryz.f5.params.toList Rows.workoutCostsGrowSpec.vars false #[arg0, arg1, arg2].toList 8 = some ([dat0, dat1, dat2], [], places) :=
 ⟨[], by kernel_rfl⟩
theorem lifted (os : Os) (started : os.Started) (H : Type) (enc : TypeId × Value → H) (F : Stop.Interp) :
  ReturnsInHanded {} Tryz.checked os 5 .any ((OpenSpec.ofChange Rows.workoutCostsGrowSpec).preRow enc Tryz.prog Tryz.f5 Rows.workoutCostsGrowRow.domain false Rows.workoutCostsGrowRow.laid) (((OpenSpec.ofChange Rows.workoutCostsGrowSpec).at F).post enc Tryz.prog Tryz.f5 false true false false) := by
 obtain ⟨places, hx⟩ := reads os enc
 refine returnsInHanded_of_row (C := Tryz.checked) (s := OpenSpec.ofChange Rows.workoutCostsGrowSpec) Tryz.own started (by kernel_rfl) Tryz.func5
  (witness_row_at (enc := enc) (C := Tryz.checked) false (laidWorld os) #[arg0, arg1, arg2] rfl (by kernel_rfl) (by kernel_rfl) (by kernel_rfl)
   (OpenSpec.preRow_of_cond 8 hx (by kernel_rfl) (fun k hk => by cases hk) (by kernel_rfl) (laid_met os))) ?_
 intro W base args ds gs before hval hW _ _ _ hL hsh _
 exact law_callR (tb := 4) bulkOk [] (by kernel_rfl) Tryz.laidOut rfl (by kernel_rfl) (by kernel_rfl) (by kernel_rfl) (fun l hl => by
  rw [show Tryz.f5.params.size = 3 by kernel_rfl] at hl
  match l, hl with
  | [_, _, _], _ => rfl) (fun m dss h _ => callLaw m dss h) (fun hM => giW hsh hL hM) hval hW
end Go.Proofs.YtpnacmnpahjpoaaGreatDoor

