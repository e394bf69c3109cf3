/- Proved: for every two lists, season.Diff answers what the reference package answers (SeasonDiffMatchesSpec returns true and leaves its arguments as they were). Conditions: none beyond those of the given statement. -/
import Derived.Test.YtefmjfcdgadggaaG9p1
import Derived.KernelRfl
import Derived.Test.YtefmjfcdgadggaaRows
set_option linter.all false
set_option maxRecDepth 100000
namespace Go.Proofs.Ytefmjfcdgadggaa
open Go Go.AM
set_option maxRecDepth 100000
set_option maxHeartbeats 4000000
variable {N : Nat}
theorem told_ok : G16x0 18446744073709551616 = some true := by kernel_rfl
theorem loop_indE {A X : Type} {S : A → (A → X) → X} {L : Nat → A → X} (hL : ∀ m a, L (m + 1) a = S a (L m)) (P : A → X → Prop) (Inv : A → Prop) (μ : A → Nat)
  (h : ∀ a kr, Inv a → (∀ a', Inv a' → μ a' < μ a → P a' (kr a')) → P a (S a kr)) : ∀ (m : Nat) (a : A), Inv a → μ a < m → P a (L m a) := by
 intro m
 induction m with
 | zero => intro a _ h; omega
 | succ m ih => intro a ha hm; rw [hL]; exact h a (L m) ha fun a' h1 h2 => ih a' h1 (by omega)
def lowB (xs : List D) : Bool := xs.any fun d => decide (d.toI < -1)
/-! ### All numbers of two lists -/
theorem G33x0x21_eq (hN : maxLen < N) {xs : List D} (hs : xs.length ≤ maxLen) : G33x0x21 N xs xs.length 0 = some (bif lowB xs then .inl () else .inr ()) := by
 unfold G33x0x21
 refine (for_ind (.i 0 : D) (S := fun w kr => S33x0x21 N xs xs.length w kr _ _) (L := fun m w => L33x0x21 N xs xs.length m w _ _) (fun m w => rfl) (fun _ l => some (bif lowB l then .inl () else .inr ())) hs ?_ ?_ hN).trans rfl
 ·intro kr; simp [S33x0x21, lowB]
 ·intro w kr h0 h1 hw hi hk
  simp only [S33x0x21, decide_eq_true h1, _root_.cond_true, hi, hw, hk, lowB, List.any_cons]
  cases decide ((xs.getD w.toNat (.i 0)).toI < -1) <;> rfl
theorem G86x0_eq (hN : maxLen < N) {xs : List D} (hs : xs.length ≤ maxLen) : ∃ i : Int, G86x0 N xs = some i ∧ decide (i ≥ 0) = lowB xs := by
 have h : G86x0x6 N xs xs.length 0 = some (match xs.findIdx? fun d => decide (d.toI < -1) with | some j => .inl (j : Int) | none => .inr ()) := by
  unfold G86x0x6
  refine (for_ind (.i 0 : D) (S := fun w kr => S86x0x6 N xs xs.length w kr _ _) (L := fun m w => L86x0x6 N xs xs.length m w _ _) (fun m w => rfl) (fun w l => some (match l.findIdx? fun d => decide (d.toI < -1) with | some j => .inl (w + (j : Int)) | none => .inr ())) hs ?_ ?_ hN).trans (by simp)
  ·intro kr; simp [S86x0x6]
  ·intro w kr h0 h1 hw hi hk
   simp only [S86x0x6, V67x0, F67x0, decide_eq_true h1, _root_.cond_true, hi, bnd_eq, hw, hk, List.findIdx?_cons]
   cases decide ((xs.getD w.toNat (.i 0)).toI < -1) with
   | true => simp
   | false =>
    simp only [_root_.cond_false, Bool.false_eq_true, if_false]
    cases (xs.drop (w + 1).toNat).findIdx? fun d => decide (d.toI < -1) with
    | none => rfl
    | some j => simp; omega
 unfold G86x0 F86x0
 rw [h]
 have hl : lowB xs = (xs.findIdx? fun d => decide (d.toI < -1)).isSome := by
  rw [List.findIdx?_isSome]; rfl
 rw [hl]
 cases xs.findIdx? fun d => decide (d.toI < -1) with
 | none => exact ⟨-1, rfl, rfl⟩
 | some j => exact ⟨j, rfl, by simp⟩
theorem G65x0_eq (hN : maxLen < N) {xs : List D} (hs : xs.length ≤ maxLen) : G65x0 N xs = some (lowB xs) := by
 obtain ⟨i, h1, h2⟩ := G86x0_eq hN hs
 unfold G65x0 F65x0
 rw [h1]
 simp only [bnd_eq, Option.isSome_some, _root_.cond_true, getD_some, h2]
theorem G87x0_eq {n : Int} (h0 : 0 ≤ n) (h1 : n ≤ 2000) : G87x0 N n = some (bif decide (n > 0) then .inl (Nat.beq n.toNat 0) else .inr ()) := by
 have hw : IntKind.wrap .i64 (n - 0) = n := by rw [Int.sub_zero]; exact wrapI (by omega) (by omega)
 unfold G87x0 F87x0 G87x0x17 F87x0x17
 rw [hw, decide_eq_false (by omega)]
 have e1 : decide (0 ≤ n) = true := decide_eq_true h0
 have e2 : decide (n.toNat * 8 ≤ room) = true := decide_eq_true (by unfold room; omega)
 have e3 : decide (n.toNat ≤ strMax) = true := decide_eq_true (by unfold strMax; omega)
 have e4 : decide (0 ≤ ((List.replicate n.toNat ((.i 0) : D)).length : Int)) = true := decide_eq_true (Int.natCast_nonneg _)
 rw [e1, e2, e3, e4]
 cases decide (n > 0) <;> rfl
/-- The lists one behind the other. -/
theorem G66x0_eq (hN : maxLen < N) {a b : Bool} {xs ys : List D} (hx : xs.length ≤ 1000) (hy : ys.length ≤ 1000) : ∃ nl, G66x0 N [.l a xs, .l b ys] = some (nl, xs ++ ys) := by
 have hm : maxLen = 9223372036854775807 := rfl
 obtain ⟨k, rfl⟩ : ∃ k, N = k + 3 := ⟨N - 3, by omega⟩
 have w1 : IntKind.wrap .i64 (0 + (xs.length : Int)) = xs.length := by rw [Int.zero_add]; exact wrapI (by omega) (by omega)
 have w2 : IntKind.wrap .i64 ((xs.length : Int) + (ys.length : Int)) = xs.length + ys.length := wrapI (by omega) (by omega)
 have w3 : IntKind.wrap .i64 (0 + 1) = 1 := by decide
 have w4 : IntKind.wrap .i64 (1 + 1) = 2 := by decide
 have h1 : G66x0x9 (k + 3) [.l a xs, .l b ys] (([.l a xs, .l b ys] : List D).length : Int) 0 0 = some (xs.length + ys.length : Int) := by
  unfold G66x0x9
  simp only [L66x0x9, S66x0x9]
  have d1 : decide ((xs.length : Int) < 0) = false := decide_eq_false (by omega)
  have d2 : decide ((xs.length : Int) + ys.length < 0) = false := decide_eq_false (by omega)
  simp only [bnd_eq, w3, w4, inB, List.length_cons, List.length_nil, List.getD_cons_zero, List.getD_cons_succ, D.items, show ((0 : Int).toNat) = 0 from rfl, show ((1 : Int).toNat) = 1 from rfl, w1, w2, d1, d2]
  rfl
 have room1 : decide ((0 + xs.length) * 8 ≤ room) = true := decide_eq_true (by unfold room; omega)
 have room2 : decide (0 + xs.length ≤ strMax) = true := decide_eq_true (by unfold strMax; omega)
 have room3 : decide ((xs.length + ys.length) * 8 ≤ room) = true := decide_eq_true (by unfold room; omega)
 have room4 : decide (xs.length + ys.length ≤ strMax) = true := decide_eq_true (by unfold strMax; omega)
 have h2 : ∀ nl, ∃ nl', G66x0x33 (k + 3) [.l a xs, .l b ys] (([.l a xs, .l b ys] : List D).length : Int) 0 nl [] = some (nl', xs ++ ys) := by
  intro nl
  unfold G66x0x33
  simp only [L66x0x33, S66x0x33]
  simp only [w3, w4, inB, List.length_cons, List.length_nil, List.getD_cons_zero, List.getD_cons_succ, D.items, show ((0 : Int).toNat) = 0 from rfl, show ((1 : Int).toNat) = 1 from rfl, room1, room2, List.nil_append, room3, room4]
  exact ⟨_, rfl⟩
 unfold G66x0 F66x0
 rw [h1]
 simp only [bnd_eq, Option.isSome_some, _root_.cond_true, getD_some, G66x0x28, F66x0x28]
 rw [G87x0_eq (by omega) (by omega)]
 cases decide ((xs.length : Int) + ys.length > 0) with
 | true =>
  obtain ⟨nl, h⟩ := h2 (Nat.beq ((xs.length : Int) + ys.length).toNat 0)
  exact ⟨nl, by simp only [_root_.cond_true, inlB_inl, inlV_inl, h, Option.isSome_some, getD_some]⟩
 | false =>
  obtain ⟨nl, h⟩ := h2 true
  exact ⟨nl, by simp only [_root_.cond_false, inlB_inr, inrQ_inr, _root_.cond_true, h, Option.isSome_some, getD_some]⟩
theorem G33x0x12_eq (hN : maxLen < N) {a b : Bool} {xs ys : List D} (hx : xs.length ≤ 1000) (hy : ys.length ≤ 1000) : G33x0x12 N 2 [.l a xs, .l b ys] 0 = some (bif lowB (xs ++ ys) then .inl () else .inr ()) := by
 have hm : maxLen = 9223372036854775807 := rfl
 have q1 := G33x0x21_eq hN (xs := xs) (by omega)
 have q2 := G33x0x21_eq hN (xs := ys) (by omega)
 obtain ⟨k, rfl⟩ : ∃ k, N = k + 3 := ⟨N - 3, by omega⟩
 have w3 : IntKind.wrap .i64 (0 + 1) = 1 := by decide
 have w4 : IntKind.wrap .i64 (1 + 1) = 2 := by decide
 unfold G33x0x12
 simp only [L33x0x12, S33x0x12]
 simp only [bnd_eq, w3, w4, inB, List.length_cons, List.length_nil, List.getD_cons_zero, List.getD_cons_succ, D.items, show ((0 : Int).toNat) = 0 from rfl, show ((1 : Int).toNat) = 1 from rfl, q1, q2]
 have hl : lowB (xs ++ ys) = (lowB xs || lowB ys) := by unfold lowB; rw [List.any_append]
 rw [hl]
 cases lowB xs <;> cases lowB ys <;> rfl
/-! ### The moves -/
theorem get_at {xs : List D} {i : Int} (h0 : 0 ≤ i) : ∃ x, G33x0x59 N xs i (decide (i < (xs.length : Int))) (-1) = some x := by
 unfold G33x0x59 F33x0x59
 by_cases h : i < xs.length
 ·rw [decide_eq_true h, inB_of h0 h]; exact ⟨_, rfl⟩
 ·rw [decide_eq_false h]; exact ⟨_, rfl⟩
theorem loop_same {xs ys : List D} {w : Int} {k0 : Bool × LD → Option (Bool × LD)} : ∀ {m : Nat} {i : Int} {nl : Bool} {l : LD}, L32x0x24 N xs ys w m i nl l k0 = L33x0x45 N xs ys w m i nl l k0
 | 0, _, _, _ => rfl
 | m + 1, i, nl, l => by
  simp only [L32x0x24, L33x0x45]
  have e : (fun w5 w6 w7 => L32x0x24 N xs ys w m w5 w6 w7 k0) = fun w5 w6 w7 => L33x0x45 N xs ys w m w5 w6 w7 k0 := by
   funext w5 w6 w7; exact loop_same
  rw [e]
  rfl
theorem moves_some (hN : maxLen < N) {xs ys : List D} {w : Int} (h0 : 0 ≤ w) (hw : w ≤ 1000) : ∃ nl l, G33x0x45 N xs ys w 0 true [] = some (nl, l) ∧ l.length ≤ 1000 := by
 have hm : maxLen = 9223372036854775807 := rfl
 have key := loop_indE (A := Int × Bool × LD) (X := Option (Bool × LD)) (S := fun x kr => S33x0x45 N xs ys w x.1 x.2.1 x.2.2 (fun a b c => kr (a, b, c)) (fun p => some p)) (L := fun m x => L33x0x45 N xs ys w m x.1 x.2.1 x.2.2 (fun p => some p)) (fun m x => rfl)
  (fun _ r => ∃ nl l, r = some (nl, l) ∧ l.length ≤ 1000) (fun x => 0 ≤ x.1 ∧ x.1 ≤ w ∧ (x.2.2.length : Int) ≤ x.1) (fun x => (w - x.1).toNat) ?_ N (0, true, []) ⟨Int.le_refl _, h0, by simp⟩ (by simp; omega)
 ·exact key
 ·rintro ⟨i, nl, l⟩ kr ⟨hi0, hi1, hl⟩ ih
  simp only at hi0 hi1 hl ih ⊢
  unfold S33x0x45
  by_cases h : i < w
  ·rw [decide_eq_true h]
   obtain ⟨x, hx⟩ := get_at (N := N) (xs := xs) hi0
   obtain ⟨y, hy⟩ := get_at (N := N) (xs := ys) hi0
   have hy' : G33x0x65 N ys i (decide (i < (ys.length : Int))) (-1) = some y := hy
   have hwr : IntKind.wrap .i64 (i + 1) = i + 1 := wrapI (by omega) (by omega)
   have r1 : decide ((l.length + 1) * 24 ≤ room) = true := decide_eq_true (by unfold room; omega)
   have r2 : decide (l.length + 1 ≤ strMax) = true := decide_eq_true (by unfold strMax; omega)
   simp only [_root_.cond_true, bnd_eq, hx, hy', Option.isSome_some, getD_some, hwr, G33x0x71, F33x0x71, r1, r2, Bool.and_self]
   cases (x != y) with
   | true =>
    simp only [_root_.cond_true, inlB_inl, inlV_inl]
    exact ih (i + 1, false, l ++ [.a [.i i, .i x, .i y]]) ⟨by omega, by omega, by simp; omega⟩ (by show (w - (i + 1)).toNat < (w - i).toNat; omega)
   | false =>
    simp only [_root_.cond_false, inlB_inr, inrQ_inr, Option.isSome_some, _root_.cond_true]
    exact ih (i + 1, nl, l) ⟨by omega, by omega, by show (l.length : Int) ≤ i + 1; omega⟩ (by show (w - (i + 1)).toNat < (w - i).toNat; omega)
  ·rw [decide_eq_false h]
   exact ⟨nl, l, rfl, by omega⟩
theorem G34x0_refl (hN : maxLen < N) {xs : List D} (hs : xs.length ≤ maxLen) : G34x0 N xs xs = some true := by
 have h : G34x0x12 N xs xs xs.length 0 = some (.inr ()) := by
  unfold G34x0x12
  refine (for_ind (.i 0 : D) (S := fun w kr => S34x0x12 N xs xs xs.length w kr _ _) (L := fun m w => L34x0x12 N xs xs xs.length m w _ _) (fun m w => rfl) (fun _ _ => some (.inr ())) hs ?_ ?_ hN).trans rfl
  ·intro kr; simp [S34x0x12]
  ·intro w kr h0 h1 hw hi hk
   simp only [S34x0x12, decide_eq_true h1, _root_.cond_true, hi, bnd_eq, hw, hk, beq_self_eq_true, Bool.and_self, Bool.not_true, _root_.cond_false]
 unfold G34x0 F34x0
 rw [h]
 simp only [bne_self_eq_false, _root_.cond_false, bnd_eq, inlB_inr, inrQ_inr, Option.isSome_some, _root_.cond_true]
theorem law9 {a b : Bool} {xs ys : List D} (hx : xs.length ≤ maxLen) (hy : ys.length ≤ maxLen) : G9x0 18446744073709551616 a xs b ys = some true := by
 have hN : maxLen < 18446744073709551616 := by decide
 have hm : maxLen = 9223372036854775807 := rfl
 have key : ∃ nl l e, G32x0 18446744073709551616 a xs b ys = some (nl, l, e) ∧ G33x0 18446744073709551616 a xs b ys = some (nl, l, e) ∧ l.length ≤ maxLen := by
  unfold G32x0 F32x0 G33x0 F33x0
  by_cases h : (xs.length : Int) > 1000 ∨ (ys.length : Int) > 1000
  ·have : (bif decide ((xs.length : Int) > 1000) then true else decide ((ys.length : Int) > 1000)) = true := by
    rcases h with h | h
    ·rw [decide_eq_true h]; rfl
    ·rw [decide_eq_true h]; cases decide ((xs.length : Int) > 1000) <;> rfl
   rw [this]
   exact ⟨true, [], 3, rfl, rfl, Nat.zero_le _⟩
  ·have h1 : xs.length ≤ 1000 := by omega
   have h2 : ys.length ≤ 1000 := by omega
   rw [decide_eq_false (by omega), decide_eq_false (by omega)]
   obtain ⟨nl, hc⟩ := G66x0_eq hN (a := a) (b := b) h1 h2
   have hl := G65x0_eq hN (xs := xs ++ ys) (by simp; omega)
   have hr := G33x0x12_eq hN (a := a) (b := b) h1 h2
   obtain ⟨n', l, hm', hle⟩ := moves_some hN (xs := xs) (ys := ys) (w := max2 (xs.length : Int) (ys.length : Int)) (by unfold max2; split <;> omega) (by unfold max2; split <;> omega)
   have hs : G32x0x24 18446744073709551616 xs ys (max2 (xs.length : Int) (ys.length : Int)) 0 true [] = some (n', l) := by rw [← hm']; unfold G32x0x24 G33x0x45; exact loop_same
   simp only [bnd_eq, _root_.cond_false, hc, Option.isSome_some, _root_.cond_true, getD_some, hl, hr, hm', hs]
   cases lowB (xs ++ ys) with
   | true => exact ⟨true, [], 9, rfl, rfl, Nat.zero_le _⟩
   | false => exact ⟨n', l, 0, rfl, rfl, by omega⟩
 obtain ⟨nl, l, e, h1, h2, h3⟩ := key
 unfold G9x0 F9x0
 rw [h1, h2]
 simp only [bnd_eq, Option.isSome_some, _root_.cond_true, getD_some, G9x0x10, F9x0x10, G34x0_refl hN h3, told_ok, beq_self_eq_true]
theorem kinds26 : kinds Try.prog 26 = [.sl 3] := by kernel_rfl
theorem arg26 {ds : List D} (h : ArgOk Try.prog 6 26 ds) : ∃ n xs, ds = [.l n xs] ∧ (n = true → xs = []) ∧ xs.length ≤ maxLen ∧ ∀ x ∈ xs, TyEl Try.prog (TyK Try.prog 5) 3 x := by
 unfold ArgOk at h
 rw [kinds26] at h
 obtain ⟨_, _, rfl, h0, h⟩ := all2_cons h
 obtain rfl := all2_nil h
 obtain ⟨n, xs, rfl, hn, l, e⟩ := ty_sl (m := 5) h0
 exact ⟨n, xs, rfl, hn, l, e⟩
theorem Try.own : ownKnob Try.prog.godebug = none := by kernel_rfl
theorem Try.laidOut : laidOutB Try.prog = true := by kernel_rfl
theorem call9 (dss : List (List D)) (h : All2 (ArgOk Try.prog 6) Try.f9.params.toList dss) : CallOk Try.prog 9 (argVs Try.prog Try.f9.params.toList dss) [] ([.c (.b true)], []) := by
 have hp : Try.f9.params.toList = [26, 26] := by kernel_rfl
 rw [hp] at h ⊢
 match dss, h with
 | [d0, d1], ⟨h0, h1, _⟩ =>
  obtain ⟨a, xs, rfl, _, hx, _⟩ := arg26 h0
  obtain ⟨b, ys, rfl, _, hy, _⟩ := arg26 h1
  refine ok9x0 18446744073709551616 _ _ (A9x0 18446744073709551616 [.b a, .l xs, .b b, .l ys]) (by kernel_rfl) _ ?_
  have e : A9x0 18446744073709551616 [.b a, .l xs, .b b, .l ys] = bnd (G9x0 18446744073709551616 a xs b ys) fun q => [(q.isSome, ([.c (.b (q.getD default))], []))] := by kernel_rfl
  rw [e, law9 hx hy]
  rfl
theorem diff_lifted (os : Os) (started : os.Started) (H : Type) (enc : TypeId × Value → H) :
  ReturnsInHanded {} Try.checked os 9 .any (Rows.seasonDiffMatchesSpecSpec.pre6 enc Try.prog Try.f9 Rows.seasonDiffMatchesSpecRow.domain false) (Rows.seasonDiffMatchesSpecSpec.post enc Try.prog Try.f9 false true false false) := by
 refine returnsInHanded_of_change (C := Try.checked) Try.own started (by kernel_rfl) Try.func9
  (ChangeSpec.witness6 (enc := enc) (C := Try.checked) false ⟨#[], #[.slice none 0 0, .slice none 0 0], []⟩ 8 (by kernel_rfl) (by kernel_rfl) (by kernel_rfl) (by kernel_rfl)) ?_
 intro W base args ds gs before hval hW _ _
 exact law_call (m := 6) (tb := 4) Try.laidOut rfl (by kernel_rfl) (by kernel_rfl) (by kernel_rfl) (fun l hl => by
  rw [show Try.f9.params.size = 2 by kernel_rfl] at hl
  match l, hl with
  | [_, _], _ => rfl) call9 hval hW
theorem diff_holds : Rows.SeasonDiffMatchesSpecSaid :=
 OpenClaim.holds_of_wide 9 Try.f9 rfl rfl rfl rfl rfl rfl rfl ⟨rfl, rfl, rfl, rfl, rfl⟩ rfl rfl rfl rfl rfl (by kernel_rfl) Try.func9 (by kernel_rfl)
  (of_decide_eq_true (by kernel_rfl)) (by unfold Func.isWrapper; first | (rw [if_pos (by decide +kernel)]; kernel_rfl) | (rw [if_neg (by decide +kernel)]; exact ⟨rfl, rfl⟩))
  (fun os started H enc _ => diff_lifted os started H enc)
end Go.Proofs.Ytefmjfcdgadggaa

