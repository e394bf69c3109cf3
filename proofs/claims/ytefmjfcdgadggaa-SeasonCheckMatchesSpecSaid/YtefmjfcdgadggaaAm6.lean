/- The abstract machine: operators. -/
import Derived.Test.YtefmjfcdgadggaaAm5
import Derived.Laws.StructEq
import Derived.WalkLawsBesides
set_option linter.all false
namespace Go.AM
open Go

section
variable {P : Program} {env : Env} {S : Stab} {w : World}
theorem toList_mk (l : List UInt8) : (ByteArray.mk l.toArray).toList = l := by rw [ByteArray.toList_eq]
theorem size_mk (l : List UInt8) : (ByteArray.mk l.toArray).size = l.length := by show l.toArray.size = _; simp
theorem append_mk (l m : List UInt8) : ByteArray.mk l.toArray ++ ByteArray.mk m.toArray = ByteArray.mk (l ++ m).toArray := by
  apply ByteArray.ext
  simp
theorem optAnd_some {a b : Option Bool} {r : Bool} (h : optAnd a b = some r) : ∃ x y, a = some x ∧ b = some y ∧ r = (x && y) := by
  unfold optAnd at h
  split at h
  · rename_i x y; exact ⟨x, y, rfl, rfl, by simpa using h.symm⟩
  · cases h
/-- A value of type T, by its cells. -/
def ofT (P : Program) (env : Env) (S : Stab) (w : World) (T : TypeId) (xs : List C) (v : Value) : Prop :=
  (isAggB P T = true ∧ ∃ us : Array Value, v = .agg us ∧ All2 (CRel P env S w) xs us.toList) ∨ (isAggB P T = false ∧ ∃ c, xs = [c] ∧ CRel P env S w c v)
theorem part_sound {T : TypeId} {xs : List C} {us : Array Value} {off : Nat} (hr : All2 (CRel P env S w) xs us.toList) (ht : tyB P T = true) (hl : isAggB P T = false → ((xs.drop off).take (sizeB P T)).length = 1) :
    ∃ v, (part T us off).run P w = .ok v w ∧ ofT P env S w T ((xs.drop off).take (sizeB P T)) v := by
  unfold part
  simp only [Sem.run_bind, run_isAgg ht, Result.andThen_ok]
  cases ha : isAggB P T with
  | true =>
    simp only [if_true, Sem.run_bind, run_sizeOf ht, Result.andThen_ok, Sem.run_pure]
    refine ⟨_, rfl, .inl ⟨ha, _, rfl, ?_⟩⟩
    have := (hr.drop off).take (sizeB P T)
    have he : (us.extract off (off + sizeB P T)).toList = (us.toList.drop off).take (sizeB P T) := by
      rw [Array.toList_extract, List.extract_eq_take_drop]; simp
    rwa [he]
  | false =>
    simp only [Bool.false_eq_true, if_false]
    have h1 := hl ha
    have h2 := (hr.drop off).take (sizeB P T)
    generalize (xs.drop off).take (sizeB P T) = ys at h1 h2 ⊢
    match ys, h1 with
    | [c], _ =>
      have hl2 := h2.length
      have h0 : ∃ u, ((us.toList.drop off).take (sizeB P T))[0]? = some u ∧ CRel P env S w c u := h2.get (by simp)
      obtain ⟨u, hu, hc⟩ := h0
      rw [List.getElem?_take] at hu
      split at hu
      · have hu' : us[off]? = some u := by simpa using hu
        simp only [hu']
        exact ⟨u, rfl, .inr ⟨ha, c, rfl, hc⟩⟩
      · cases hu
theorem eqInt_sound {xs ys : List C} {r : Bool} (h : eqInt xs ys = some r) : ∃ k a b, xs = [.i k a] ∧ ys = [.i k b] ∧ r = (a == b) := by
  unfold eqInt at h
  split at h
  · rename_i k a k' b
    cases hk : k == k' with
    | false => rw [hk] at h; cases h
    | true => rw [hk] at h; have := eq_of_beq hk; subst this; exact ⟨k, a, b, rfl, rfl, by simpa using h.symm⟩
  · cases h
theorem eqStr_sound {xs ys : List C} {r : Bool} (h : eqStr xs ys = some r) : ∃ a b, xs = [.s a] ∧ ys = [.s b] ∧ r = (a == b) := by
  unfold eqStr at h
  split at h
  · exact ⟨_, _, rfl, rfl, by simpa using h.symm⟩
  · cases h
theorem boolC_sound {c : C} {a : Bool} {v : Value} (h : boolC c = some a) (hc : CRel P env S w c v) : v = .bool a := by
  cases c <;> simp only [boolC] at h <;> first | (cases h; done) | (simp only [Option.some.injEq] at h; subst h; exact hc)
theorem eqBool_sound {xs ys : List C} {r : Bool} (h : eqBool xs ys = some r) : ∃ c d a b, xs = [c] ∧ ys = [d] ∧ boolC c = some a ∧ boolC d = some b ∧ r = (a == b) := by
  unfold eqBool at h
  split at h
  · rename_i c d
    split at h
    · rename_i a b h1 h2; exact ⟨c, d, a, b, rfl, rfl, h1, h2, by simpa using h.symm⟩
    · cases h
  · cases h
theorem ofT_one {T : TypeId} {c : C} {v : Value} (ha : isAggB P T = false) (h : ofT P env S w T [c] v) : CRel P env S w c v := by
  rcases h with ⟨h, _⟩ | ⟨_, d, h, hd⟩
  · rw [ha] at h; cases h
  · simp only [List.cons.injEq, and_true] at h; subst h; exact hd
theorem eqT_one {n : Nat} {T : TypeId} {xs ys : List C} {r : Bool} (ha : isAggB P T = false) (h : eqT P n T xs ys = some r) : xs.length = 1 ∧ ys.length = 1 := by
  cases n with
  | zero => simp [eqT] at h
  | succ n =>
    simp only [eqT] at h
    unfold isAggB at ha
    split at h
    · obtain ⟨_, _, _, rfl, rfl, _⟩ := eqInt_sound h; exact ⟨rfl, rfl⟩
    · obtain ⟨_, _, _, _, rfl, rfl, _⟩ := eqBool_sound h; exact ⟨rfl, rfl⟩
    · obtain ⟨_, _, rfl, rfl, _⟩ := eqStr_sound h; exact ⟨rfl, rfl⟩
    · rename_i hu; simp [hu] at ha
    · rename_i hu; simp [hu] at ha
    · cases h
theorem eqT_ty {n : Nat} {T : TypeId} {xs ys : List C} {r : Bool} (h : eqT P n T xs ys = some r) : tyB P T = true := by
  cases n with
  | zero => simp [eqT] at h
  | succ n => unfold tyB; simp only [eqT] at h; cases hu : P.underlying T <;> simp [hu] at h ⊢
theorem run_eqIn_fields (d : Nat) (xs ys : List C) (us vs : Array Value) (hx : All2 (CRel P env S w) xs us.toList) (hy : All2 (CRel P env S w) ys vs.toList) (n : Nat)
    (ih : ∀ T xs ys r vx vy, eqT P n T xs ys = some r → ofT P env S w T xs vx → ofT P env S w T ys vy → (Op.equalIn d T vx vy).run P w = .ok r w) : ∀ (fs : List Field) (r : Bool),
    fs.foldr (fun f r => bif f.name == "_" then none else optAnd (eqT P n f.type ((xs.drop f.offset).take (sizeB P f.type)) ((ys.drop f.offset).take (sizeB P f.type))) r) (some true) = some r →
    (Op.eqFields d us vs fs).run P w = .ok r w
  | [], r, h => by simp at h; subst h; simp [Op.eqFields]
  | f :: fs, r, h => by
    simp only [List.foldr_cons] at h
    cases hn : f.name == "_" with
    | true => rw [hn] at h; cases h
    | false =>
      rw [hn] at h
      simp only [cond_false] at h
      obtain ⟨a, b, h1, h2, rfl⟩ := optAnd_some h
      have hne : f.name ≠ "_" := by simpa using hn
      have ht : tyB P f.type = true := eqT_ty h1
      have hlen : isAggB P f.type = false → ((xs.drop f.offset).take (sizeB P f.type)).length = 1 ∧ ((ys.drop f.offset).take (sizeB P f.type)).length = 1 := fun ha => eqT_one ha h1
      obtain ⟨v1, r1, o1⟩ := part_sound hx ht fun ha => (hlen ha).1
      obtain ⟨v2, r2, o2⟩ := part_sound hy ht fun ha => (hlen ha).2
      have h3 := ih _ _ _ _ _ _ h1 o1 o2
      simp only [Op.eqFields, hne, ne_eq, not_false_eq_true, if_true, Sem.run_bind, r1, r2, h3, Result.andThen_ok]
      cases a with
      | true =>
        simp only [Bool.not_true, Bool.false_eq_true, if_false, Bool.true_and]
        exact run_eqIn_fields d xs ys us vs hx hy n ih fs b h2
      | false => simp
def eqElems (P : Program) (d : Nat) (us vs : Array Value) (e : TypeId) : List Nat → Sem Bool
  | [] => pure true
  | i :: is => do
    let a ← part e us (i * sizeB P e)
    let b ← part e vs (i * sizeB P e)
    let r ← Op.equalIn d e a b
    if (!r) = true then pure false else eqElems P d us vs e is
theorem run_equalIn_array (d : Nat) (t len e : Nat) (us vs : Array Value) (hu : P.underlying t = some (.array len e)) (he : (P.info? e).isSome = true) :
    (Op.equalIn (d + 1) t (.agg us) (.agg vs)).run P w = (eqElems P d us vs e (List.range' 0 len)).run P w := by
  simp only [Op.equalIn, Sem.run_bind, run_underlying hu, Result.andThen_ok, run_sizeOf' he]
  rw [Std.Legacy.Range.forIn_eq_forIn_range']
  have hl : ([0:len] : Std.Legacy.Range).size = len := by simp [Std.Legacy.Range.size]
  rw [hl]
  show Result.andThen (Sem.run P (forIn (List.range' 0 len 1) _ _) w) _ = _
  generalize List.range' 0 len 1 = is
  clear hl hu
  induction is generalizing w with
  | nil => simp [eqElems]
  | cons i is ih =>
    simp only [List.forIn_cons, eqElems, Sem.run_bind]
    generalize (part e us (i * sizeB P e)).run P w = r1
    cases r1 with
    | ok a w1 =>
      simp only [Result.andThen_ok]
      generalize (part e vs (i * sizeB P e)).run P w1 = r2
      cases r2 with
      | ok b w2 =>
        simp only [Result.andThen_ok]
        generalize (Op.equalIn d e a b).run P w2 = r3
        cases r3 with
        | ok r w3 =>
          cases r
          · simp
          · simp only [Result.andThen_ok, Bool.not_true, Bool.false_eq_true, if_false, Sem.run_pure]
            exact ih
        | halt x w3 => simp [Result.andThen]
      | halt x w2 => simp [Result.andThen]
    | halt x w1 => simp [Result.andThen]
theorem run_eqIn_elems (d : Nat) (xs ys : List C) (us vs : Array Value) (hx : All2 (CRel P env S w) xs us.toList) (hy : All2 (CRel P env S w) ys vs.toList) (n : Nat) (e : TypeId)
    (ih : ∀ T xs ys r vx vy, eqT P n T xs ys = some r → ofT P env S w T xs vx → ofT P env S w T ys vy → (Op.equalIn d T vx vy).run P w = .ok r w) : ∀ (is : List Nat) (r : Bool),
    is.foldr (fun i r => optAnd (eqT P n e ((xs.drop (i * sizeB P e)).take (sizeB P e)) ((ys.drop (i * sizeB P e)).take (sizeB P e))) r) (some true) = some r →
    (eqElems P d us vs e is).run P w = .ok r w
  | [], r, h => by simp at h; subst h; simp [eqElems]
  | i :: is, r, h => by
    simp only [List.foldr_cons] at h
    obtain ⟨a, b, h1, h2, rfl⟩ := optAnd_some h
    obtain ⟨v1, r1, o1⟩ := part_sound hx (eqT_ty h1) fun ha => (eqT_one ha h1).1
    obtain ⟨v2, r2, o2⟩ := part_sound hy (eqT_ty h1) fun ha => (eqT_one ha h1).2
    have h3 := ih _ _ _ _ _ _ h1 o1 o2
    simp only [eqElems, Sem.run_bind, r1, r2, h3, Result.andThen_ok]
    cases a with
    | true =>
      simp only [Bool.not_true, Bool.false_eq_true, if_false, Bool.true_and]
      exact run_eqIn_elems d xs ys us vs hx hy n e ih is b h2
    | false => simp
theorem eqT_sound : ∀ (n : Nat) (T : TypeId) (xs ys : List C) (r : Bool) (vx vy : Value), eqT P n T xs ys = some r → ofT P env S w T xs vx → ofT P env S w T ys vy → ∀ d, n ≤ d → (Op.equalIn d T vx vy).run P w = .ok r w
  | 0, _, _, _, _, _, _, h, _, _, _, _ => by simp [eqT] at h
  | n + 1, T, xs, ys, r, vx, vy, h, hx, hy, d, hd => by
    obtain ⟨d', rfl⟩ : ∃ d', d = d' + 1 := ⟨d - 1, by omega⟩
    have ih : ∀ T xs ys r vx vy, eqT P n T xs ys = some r → ofT P env S w T xs vx → ofT P env S w T ys vy → (Op.equalIn d' T vx vy).run P w = .ok r w :=
      fun T xs ys r vx vy h hx hy => eqT_sound n T xs ys r vx vy h hx hy d' (by omega)
    simp only [eqT] at h
    split at h
    · rename_i k hu
      have ha : isAggB P T = false := by unfold isAggB; rw [hu]
      obtain ⟨k', a, b, rfl, rfl, rfl⟩ := eqInt_sound h
      have h1 := ofT_one ha hx
      have h2 := ofT_one ha hy
      simp only [CRel] at h1 h2
      subst h1 h2
      exact run_equalIn_int w d' T k' k a b hu
    · rename_i hu
      have ha : isAggB P T = false := by unfold isAggB; rw [hu]
      obtain ⟨c, e, a, b, rfl, rfl, h3, h4, rfl⟩ := eqBool_sound h
      have h1 := boolC_sound h3 (ofT_one ha hx)
      have h2 := boolC_sound h4 (ofT_one ha hy)
      subst h1 h2
      exact run_equalIn_bool' w d' T a b hu
    · rename_i hu
      have ha : isAggB P T = false := by unfold isAggB; rw [hu]
      obtain ⟨a, b, rfl, rfl, rfl⟩ := eqStr_sound h
      have h1 := ofT_one ha hx
      have h2 := ofT_one ha hy
      simp only [CRel] at h1 h2
      subst h1 h2
      rw [run_equalIn_string w d' T _ _ hu, toList_mk, toList_mk]
    · rename_i fs hu
      have ha : isAggB P T = true := by unfold isAggB; rw [hu]
      cases hs : P.stoodInHeld T with
      | true => rw [hs] at h; cases h
      | false =>
        rw [hs] at h
        simp only [cond_false] at h
        rcases hx with ⟨_, us, rfl, hx⟩ | ⟨hx1, _⟩
        · rcases hy with ⟨_, vs, rfl, hy⟩ | ⟨hy1, _⟩
          · have hf : P.fieldsOf T = fs := by unfold Program.fieldsOf; rw [hu]
            rw [run_equalIn_struct w d' T us vs (by rw [hf]; exact hu) hs, hf]
            exact run_eqIn_fields d' xs ys us vs hx hy n ih fs.toList r h
          · rw [ha] at hy1; cases hy1
        · rw [ha] at hx1; cases hx1
    · rename_i len e hu
      have ha : isAggB P T = true := by unfold isAggB; rw [hu]
      rcases hx with ⟨_, us, rfl, hx⟩ | ⟨hx1, _⟩
      · rcases hy with ⟨_, vs, rfl, hy⟩ | ⟨hy1, _⟩
        · cases ht : tyB P e with
          | false => rw [ht] at h; cases h
          | true =>
            rw [ht] at h
            simp only [cond_true] at h
            have he : (P.info? e).isSome = true := by
              unfold tyB at ht
              cases hq : P.underlying e with
              | none => rw [hq] at ht; cases ht
              | some D => obtain ⟨i, hi⟩ := info_of_underlying hq; rw [hi]; rfl
            rw [run_equalIn_array d' T len e us vs hu he, ← List.range_eq_range']
            exact run_eqIn_elems d' xs ys us vs hx hy n e ih _ r h
        · rw [ha] at hy1; cases hy1
      · rw [ha] at hx1; cases hx1
    · cases h
end
end Go.AM
