/- The abstract machine: lemmas for the plain laws. -/
import Derived.Test.YtefmjfcdgadggaaAm35
import Derived.IntWalk
set_option linter.all false
namespace Go.AM
open Go

theorem bnd_eq {A R : Type} (e : A) (f : A → R) : bnd e f = f e := rfl
theorem wrapI {x : Int} (h1 : -9223372036854775808 ≤ x) (h2 : x ≤ 9223372036854775807) : IntKind.wrap .i64 x = x := by rw [IntKind.wrap_i64]; omega
theorem inB_of {i : Int} {n : Nat} (h1 : 0 ≤ i) (h2 : i < n) : inB i n = true := by unfold inB; rw [decide_eq_true h1, decide_eq_true h2]; rfl
/-- A loop, by a measure. -/
theorem loop_ind {A X : Type} {S : A → (A → X) → X} {L : Nat → A → X} (hL : ∀ m a, L (m + 1) a = S a (L m)) (spec : A → X) (Inv : A → Prop) (μ : A → Nat)
    (h : ∀ a kr, Inv a → (∀ a', Inv a' → μ a' < μ a → kr a' = spec a') → S a kr = spec a) : ∀ (m : Nat) (a : A), Inv a → μ a < m → L m a = spec a := by
  intro m
  induction m with
  | zero => intro a _ h; omega
  | succ m ih => intro a ha hm; rw [hL]; exact h a (L m) ha fun a' h1 h2 => ih a' h1 (by omega)
theorem drop_at {α : Type} (d : α) {xs : List α} {w : Int} (h0 : 0 ≤ w) (h1 : w < xs.length) : xs.drop w.toNat = xs.getD w.toNat d :: xs.drop (w + 1).toNat := by
  have e : (w + 1).toNat = w.toNat + 1 := by omega
  have hl : w.toNat < xs.length := by omega
  rw [e, List.drop_eq_getElem_cons hl, List.getD_eq_getElem?_getD, List.getElem?_eq_getElem hl]
  rfl
theorem drop_end {α : Type} {xs : List α} {w : Int} (h1 : ¬ w < xs.length) : xs.drop w.toNat = [] := List.drop_eq_nil_of_le (by omega)
/-- A loop over a list's places. -/
theorem for_ind {α X : Type} {xs : List α} (d : α) {S : Int → (Int → X) → X} {L : Nat → Int → X} (hL : ∀ m a, L (m + 1) a = S a (L m)) (spec : Int → List α → X) (hlen : xs.length ≤ maxLen)
    (hend : ∀ kr, S xs.length kr = spec xs.length [])
    (hstep : ∀ (w : Int) (kr : Int → X), 0 ≤ w → w < xs.length → IntKind.wrap .i64 (w + 1) = w + 1 → inB w xs.length = true → kr (w + 1) = spec (w + 1) (xs.drop (w + 1).toNat) → S w kr = spec w (xs.getD w.toNat d :: xs.drop (w + 1).toNat))
    {N : Nat} (hN : maxLen < N) : L N 0 = spec 0 xs := by
  have hm : maxLen = 9223372036854775807 := rfl
  have := loop_ind hL (fun w => spec w (xs.drop w.toNat)) (fun w => 0 ≤ w ∧ w ≤ xs.length) (fun w => (xs.length - w).toNat) (fun w kr ⟨h0, h1⟩ ih => by
    by_cases hw : w < xs.length
    · rw [drop_at d h0 hw]
      exact hstep w kr h0 hw (wrapI (by omega) (by omega)) (inB_of h0 hw) (ih (w + 1) ⟨by omega, by omega⟩ (by omega))
    · have : w = xs.length := by omega
      subst this
      rw [drop_end (by omega)]
      exact hend kr) N 0 ⟨Int.le_refl _, by omega⟩ (by omega)
  simpa using this
theorem cond_congr {R : Type} {c c' : Bool} {x y : R} (h : c = c') : (bif c then x else y) = (bif c' then x else y) := by rw [h]
/-- What a sum of two ways says. -/
theorem inlB_inl {A B : Type} (a : A) : inlB (some (Sum.inl a : Sum A B)) = true := rfl
theorem inlB_inr {A B : Type} (b : B) : inlB (some (Sum.inr b : Sum A B)) = false := rfl
theorem inlV_inl {A B : Type} [Inhabited A] (a : A) : inlV (some (Sum.inl a : Sum A B)) = a := rfl
theorem inrQ_inr {A B : Type} (b : B) : inrQ (some (Sum.inr b : Sum A B)) = some b := rfl
theorem getD_some {A : Type} (a d : A) : (some a).getD d = a := rfl
end Go.AM
