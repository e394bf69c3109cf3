/- The abstract machine: data out of cells, maps, slices. -/
import Derived.Test.YtefmjfcdgadggaaAm8
set_option linter.all false
namespace Go.AM
open Go

section
variable {P : Program} {env : Env} {S : Stab} {w : World} {mem : AL Obj}
/-- Rows that are not the function's alone are stable. -/
def RowsStable (P : Program) (env : Env) (S : Stab) (mem : AL Obj) : Prop :=
  ∀ key e xs, get mem key = some (.row e false false xs) → ∀ o, o < xs.length * sizeB P e → S (env key).blk o
theorem mul_lt {i n s j : Nat} (hi : i < n) (hj : j < s) : i * s + j < n * s := by
  have : (i + 1) * s ≤ n * s := Nat.mul_le_mul_right _ hi
  rw [Nat.add_mul, Nat.one_mul] at this
  omega
theorem row_repD (hob : ∀ key o, get mem key = some o → ObjRel P env S w (env key) o) (hst : RowsStable P env S mem) {key : Nat} {e : TypeId} {n : Bool} {xs : List D} (hg : get mem key = some (.row e false n xs)) :
    RepD P w S (.sl e) (.l n xs) (env key).hdr := by
  obtain ⟨h0, ⟨rfl, rfl, h1⟩ | ⟨rfl, hb, cap, cur, h1, h2, h3, h4, h5, h6⟩⟩ := hob _ _ hg
  · rw [h1]; exact .nil e _ rfl rfl
  · rw [h1]
    refine .sl e (.l false xs) (env key).blk 0 cap (fun i j => (w.cell? ⟨(env key).blk, i * sizeB P e + j, none⟩).getD undef) rfl h0 h3 h4 ?_ ?_
    · intro i hi j hj
      obtain ⟨k, hk⟩ : ∃ k, (kinds P e)[j]? = some k := ⟨_, List.getElem?_eq_getElem hj⟩
      obtain ⟨u, hu, _⟩ := h6 i j k hi hk
      have hc := cell_of h2 hu
      rw [Nat.zero_add, hc]
      exact ⟨hst key e xs hg _ (mul_lt hi (h0 ▸ hj)), rfl⟩
    · intro i hi j k hk
      obtain ⟨u, hu, hr⟩ := h6 i j k hi hk
      rw [cell_of h2 hu]
      exact hr
theorem fit_sound (hob : ∀ key o, get mem key = some o → ObjRel P env S w (env key) o) (hst : RowsStable P env S mem) {k : CK} {c : C} {d : D} {v : Value} (hc : CRel P env S w c v) (h : fit mem k c = some d) : RepD P w S k d v := by
  unfold fit at h
  split at h
  · rename_i k k' n
    cases hk : k == k' with
    | false => rw [hk] at h; cases h
    | true =>
      rw [hk] at h
      have := eq_of_beq hk
      subst this
      simp only [cond_true, Option.some.injEq] at h
      simp only [CRel] at hc
      subst h hc
      exact .int k (.i n)
  · simp only [Option.some.injEq] at h; simp only [CRel] at hc; subst h hc; exact .bool (.b _)
  · simp only [Option.some.injEq] at h; simp only [CRel] at hc; subst h hc; exact .bool (.b _)
  · simp only [Option.some.injEq] at h; simp only [CRel] at hc; subst h hc; exact .str (.s _)
  · rename_i e e' n xs
    cases he : Nat.beq e e' with
    | false => rw [he] at h; cases h
    | true =>
      rw [he] at h
      have := Nat.eq_of_beq_eq_true he
      subst this
      simp only [cond_true, Option.some.injEq] at h
      subst h
      exact hc
  · simp only [Option.some.injEq] at h; simp only [CRel] at hc; subst h hc; exact .nil _ _ rfl rfl
  · rename_i e key
    split at h
    · rename_i e' n xs hg
      cases he : Nat.beq e e' with
      | false => rw [he] at h; cases h
      | true =>
        rw [he] at h
        have := Nat.eq_of_beq_eq_true he
        subst this
        simp only [cond_true, Option.some.injEq] at h
        simp only [CRel] at hc
        subst h hc
        exact row_repD hob hst hg
    · cases h
  · cases h
theorem fits_sound (hob : ∀ key o, get mem key = some o → ObjRel P env S w (env key) o) (hst : RowsStable P env S mem) : ∀ {ks : List CK} {cs : List C} {ds : List D} {us : List Value}, All2 (CRel P env S w) cs us → fits mem ks cs = some ds →
    ks.length = us.length ∧ ∀ (j : Nat) (k : CK), ks[j]? = some k → ∃ u, us[j]? = some u ∧ RepD P w S k (ds.getD j (.i 0)) u
  | [], [], ds, us, hr, h => by cases us with
    | nil => exact ⟨rfl, fun j k hk => by simp at hk⟩
    | cons => exact hr.elim
  | [], _ :: _, ds, us, hr, h => by simp [fits] at h
  | _ :: _, [], ds, us, hr, h => by simp [fits] at h
  | k :: ks, c :: cs, ds, us, hr, h => by
    cases us with
    | nil => exact hr.elim
    | cons u us =>
      simp only [fits] at h
      split at h
      · rename_i d hd
        split at h
        · rename_i ds' hds
          simp only [Option.some.injEq] at h
          subst h
          obtain ⟨h1, h2⟩ := fits_sound hob hst hr.2 hds
          refine ⟨by simp [h1], fun j k' hk' => ?_⟩
          cases j with
          | zero =>
            simp only [List.getElem?_cons_zero, Option.some.injEq] at hk'
            subst hk'
            exact ⟨u, by simp, by simpa using fit_sound hob hst hr.1 hd⟩
          | succ j =>
            obtain ⟨u', h3, h4⟩ := h2 j k' (by simpa using hk')
            exact ⟨u', by simpa using h3, by simpa using h4⟩
        · cases h
      · cases h
/-- A value's cells are those of its datum. -/
theorem asD_cells (hob : ∀ key o, get mem key = some o → ObjRel P env S w (env key) o) (hst : RowsStable P env S mem) {e : TypeId} {x : V} {d : D} {v : Value} (hx : VRel P env S w x v) (h : asD P mem e x = some d) :
    (kinds P e).length = v.cells.size ∧ ∀ (j : Nat) (k : CK), (kinds P e)[j]? = some k → ∃ u, v.cells[j]? = some u ∧ RepD P w S k (elD P e d j) u := by
  unfold asD at h
  cases ha : isAggB P e with
  | true =>
    rw [ha] at h
    simp only [cond_true] at h
    split at h
    · obtain ⟨us, rfl, hr⟩ := hx
      split at h
      · rename_i cs ds hds
        simp only [Option.some.injEq] at h
        subst h
        obtain ⟨h1, h2⟩ := fits_sound hob hst hr hds
        refine ⟨(show (kinds P e).length = us.size by simpa using h1), fun j k hk => ?_⟩
        obtain ⟨u, h3, h4⟩ := h2 j k hk
        exact ⟨u, (show us[j]? = some u by simpa using h3), by unfold elD; rw [ha]; exact h4⟩
      · cases h
    · cases h
  | false =>
    rw [ha] at h
    simp only [cond_false] at h
    split at h
    · rename_i c k hk
      have hr := fit_sound hob hst hx h
      have hcells : v.cells = #[v] := by cases hr <;> rfl
      rw [hk, hcells]
      refine ⟨rfl, fun j k' hk' => ?_⟩
      cases j with
      | zero =>
        simp only [List.getElem?_cons_zero, Option.some.injEq] at hk'
        subst hk'
        exact ⟨v, by simp, by unfold elD; rw [ha]; exact hr⟩
      | succ j => simp at hk'
    · cases h
theorem elCells_of_cells {e : TypeId} {d : D} {us : List Value} (h0 : (kinds P e).length = us.length) (h : ∀ (j : Nat) (k : CK), (kinds P e)[j]? = some k → ∃ u, us[j]? = some u ∧ RepD P w S k (elD P e d j) u) : All2 (CRel P env S w) (elCells P e d) us := by
  refine .of_get (by rw [length_elCells, h0]) fun j x y hx hy => ?_
  rw [getElem?_elCells] at hx
  cases hk : (kinds P e)[j]? with
  | none => rw [hk] at hx; cases hx
  | some k =>
    rw [hk] at hx
    simp only [Option.map_some, Option.some.injEq] at hx
    obtain ⟨u, h1, h2⟩ := h j k hk
    rw [hy] at h1
    simp only [Option.some.injEq] at h1
    subst h1 hx
    exact crel_mkC h2
theorem valueD_of_asD (hob : ∀ key o, get mem key = some o → ObjRel P env S w (env key) o) (hst : RowsStable P env S mem) {e : TypeId} {x : V} {d : D} {v : Value} (hx : VRel P env S w x v) (h : asD P mem e x = some d) : VRel P env S w (valueD P e d) v := by
  obtain ⟨h1, h2⟩ := asD_cells hob hst hx h
  have hall := elCells_of_cells (env := env) (us := v.cells.toList) (by simpa using h1) (fun j k hk => let ⟨u, a, b⟩ := h2 j k hk; ⟨u, by simpa using a, b⟩)
  unfold asD at h
  unfold valueD
  cases ha : isAggB P e with
  | true =>
    rw [ha] at h
    simp only [cond_true] at h ⊢
    split at h
    · obtain ⟨us, rfl, hr⟩ := hx
      exact ⟨us, rfl, hall⟩
    · cases h
  | false =>
    rw [ha] at h
    simp only [cond_false] at h ⊢
    split at h
    · rename_i c k hk
      have hr := fit_sound hob hst hx h
      have hcells : v.cells = #[v] := by cases hr <;> rfl
      rw [hcells] at hall
      have he : elCells P e d = [mkC k d] := by unfold elCells; rw [ha, hk]; rfl
      rw [he] at hall ⊢
      exact hall.1
    · cases h
theorem ofT_valueD {T : TypeId} {d : D} {v : Value} {n : Nat} {ys : List C} {r : Bool} (h : VRel P env S w (valueD P T d) v) (he : eqT P n T (elCells P T d) ys = some r) : ofT P env S w T (elCells P T d) v := by
  unfold valueD at h
  cases ha : isAggB P T with
  | true => rw [ha] at h; exact .inl ⟨ha, h⟩
  | false =>
    rw [ha] at h
    simp only [cond_false] at h
    have h1 := (eqT_one ha he).1
    match hc : elCells P T d, h1 with
    | [c], _ => rw [hc] at h; exact .inr ⟨ha, c, rfl, h⟩
theorem ofT_valueD' {T : TypeId} {d : D} {v : Value} {n : Nat} {xs : List C} {r : Bool} (h : VRel P env S w (valueD P T d) v) (he : eqT P n T xs (elCells P T d) = some r) : ofT P env S w T (elCells P T d) v := by
  unfold valueD at h
  cases ha : isAggB P T with
  | true => rw [ha] at h; exact .inl ⟨ha, h⟩
  | false =>
    rw [ha] at h
    simp only [cond_false] at h
    have h1 := (eqT_one ha he).2
    match hc : elCells P T d, h1 with
    | [c], _ => rw [hc] at h; exact .inr ⟨ha, c, rfl, h⟩

/-! ### Keys of maps -/
theorem checkKey_sound (em : Bool) : ∀ (n : Nat) (T : TypeId) (xs ys : List C) (r : Bool) (v : Value), eqT P n T xs ys = some r → ofT P env S w T xs v → ∀ d, n ≤ d → (Instr.checkKey em d T v).run P w = .ok () w
  | 0, _, _, _, _, _, h, _, _, _ => by simp [eqT] at h
  | n + 1, T, xs, ys, r, v, h, hx, d, hd => by
    obtain ⟨d', rfl⟩ : ∃ d', d = d' + 1 := ⟨d - 1, by omega⟩
    simp only [eqT] at h
    split at h
    · rename_i k hu
      have ha : isAggB P T = false := by unfold isAggB; rw [hu]
      obtain ⟨k', a, b, rfl, rfl, rfl⟩ := eqInt_sound h
      have h1 := ofT_one ha hx
      simp only [CRel] at h1
      subst h1
      simp [Instr.checkKey, run_underlying hu]
    · rename_i hu
      have ha : isAggB P T = false := by unfold isAggB; rw [hu]
      obtain ⟨c, e, a, b, rfl, rfl, h3, h4, rfl⟩ := eqBool_sound h
      have h1 := boolC_sound h3 (ofT_one ha hx)
      subst h1
      simp [Instr.checkKey, run_underlying hu]
    · rename_i hu
      have ha : isAggB P T = false := by unfold isAggB; rw [hu]
      obtain ⟨a, b, rfl, rfl, rfl⟩ := eqStr_sound h
      have h1 := ofT_one ha hx
      simp only [CRel] at h1
      subst h1
      simp [Instr.checkKey, run_underlying hu]
    · rename_i fs hu
      have ha : isAggB P T = true := by unfold isAggB; rw [hu]
      cases hs : P.stoodInHeld T with
      | true => rw [hs] at h; cases h
      | false =>
        rw [hs] at h
        simp only [cond_false] at h
        rcases hx with ⟨_, us, rfl, hx⟩ | ⟨hx1, _⟩
        · simp only [Instr.checkKey, Sem.run_bind, run_underlying hu, Result.andThen_ok]
          rw [← Array.forIn_toList]
          generalize fs.toList = l at h
          clear hu ha hs
          induction l generalizing r with
          | nil => simp
          | cons f l ih =>
            simp only [List.foldr_cons] at h
            cases hn : f.name == "_" with
            | true => rw [hn] at h; cases h
            | false =>
              rw [hn] at h
              simp only [cond_false] at h
              obtain ⟨a, b, h1, h2, rfl⟩ := optAnd_some h
              have hne : f.name ≠ "_" := by simpa using hn
              obtain ⟨v1, r1, o1⟩ := part_sound hx (eqT_ty h1) fun ha => (eqT_one ha h1).1
              have h3 := checkKey_sound em n _ _ _ _ _ h1 o1 d' (by omega)
              simp only [List.forIn_cons, hne, ne_eq, not_false_eq_true, if_true, Sem.run_bind, r1, Result.andThen_ok, h3, Sem.run_pure]
              exact ih b h2
        · rw [ha] at hx1; cases hx1
    · rename_i len e hu
      have ha : isAggB P T = true := by unfold isAggB; rw [hu]
      rcases hx with ⟨_, us, rfl, hx⟩ | ⟨hx1, _⟩
      · cases ht : tyB P e with
        | false => rw [ht] at h; cases h
        | true =>
          rw [ht] at h
          simp only [cond_true] at h
          simp only [Instr.checkKey, Sem.run_bind, run_underlying hu, Result.andThen_ok]
          rw [Std.Legacy.Range.forIn_eq_forIn_range']
          have hl : ([0:len] : Std.Legacy.Range).size = len := by simp [Std.Legacy.Range.size]
          rw [hl]
          rw [List.range_eq_range'] at h
          show (Sem.run P (forIn (List.range' 0 len 1) _ _) w).andThen _ = _
          generalize List.range' 0 len 1 = is at h
          clear hl hu ha
          induction is generalizing r with
          | nil => simp
          | cons i is ih =>
            simp only [List.foldr_cons] at h
            obtain ⟨a, b, h1, h2, rfl⟩ := optAnd_some h
            obtain ⟨v1, r1, o1⟩ := part_sound hx (eqT_ty h1) fun ha => (eqT_one ha h1).1
            have h3 := checkKey_sound em n _ _ _ _ _ h1 o1 d' (by omega)
            simp only [List.forIn_cons, Sem.run_bind, run_sizeOf ht, r1, Result.andThen_ok, h3, Sem.run_pure]
            exact ih b h2
      · rw [ha] at hx1; cases hx1
    · cases h
end
end Go.AM
