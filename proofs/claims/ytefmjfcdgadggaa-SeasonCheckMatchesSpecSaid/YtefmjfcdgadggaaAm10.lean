/- The abstract machine: what a map's key finds. -/
import Derived.Test.YtefmjfcdgadggaaAm9
import Derived.Test.YtefmjfcdgadggaaAm2
set_option linter.all false
namespace Go.AM
open Go

section
variable {P : Program} {env : Env} {S : Stab} {w : World} {mem : AL Obj}
def posD (P : Program) (T : TypeId) (k : D) : List (D × D) → Option (Option Nat)
  | [] => some none
  | (k', _) :: r => match eqD P T k k', posD P T k r with
    | some e, some o => some (bif e then some 0 else o.map (· + 1))
    | _, _ => none
def ShC (c c' : C) : Prop := ∃ k d d', c = mkC k d ∧ c' = mkC k d'
theorem elCells_sh (T : TypeId) (x y : D) : All2 ShC (elCells P T x) (elCells P T y) := by
  refine .of_get ?_ fun j c c' hc hc' => ?_
  · have h1 : ∀ z, (elCells P T z).length = if isAggB P T = true then (kinds P T).length else min 1 (kinds P T).length := by
      intro z
      unfold elCells
      cases isAggB P T with
      | true =>
        have : ∀ (ks : List CK) (j : Nat), (mkCs z j ks).length = ks.length := by
          intro ks
          induction ks with
          | nil => intro j; rfl
          | cons k r ih => intro j; simp [mkCs, ih]
        simp [this]
      | false => cases kinds P T <;> simp <;> omega
    rw [h1, h1]
  · rw [getElem?_elCells] at hc hc'
    cases hk : (kinds P T)[j]? with
    | none => rw [hk] at hc; cases hc
    | some k =>
      rw [hk] at hc hc'
      simp only [Option.map_some, Option.some.injEq] at hc hc'
      exact ⟨k, _, _, hc.symm, hc'.symm⟩
theorem optAnd_sh (a b : Option Bool) : (optAnd a b).isSome = (a.isSome && b.isSome) := by cases a <;> cases b <;> rfl
theorem eqInt_sh {xs xs' ys ys' : List C} (hx : All2 ShC xs xs') (hy : All2 ShC ys ys') : (eqInt xs ys).isSome = (eqInt xs' ys').isSome := by
  match xs, xs', hx with
  | [], [], _ => rfl
  | _ :: _ :: _, _ :: _ :: _, _ => simp [eqInt]
  | [c], [c'], hx =>
    obtain ⟨⟨k, d, d', rfl, rfl⟩, _⟩ := hx
    match ys, ys', hy with
    | [], [], _ => cases k <;> rfl
    | _ :: _ :: _, _ :: _ :: _, _ => cases k <;> simp [eqInt]
    | [e], [e'], hy =>
      obtain ⟨⟨k2, d2, d2', rfl, rfl⟩, _⟩ := hy
      cases k <;> cases k2 <;> simp [eqInt, mkC]
      rename_i a b
      cases a == b <;> rfl
theorem eqStr_sh {xs xs' ys ys' : List C} (hx : All2 ShC xs xs') (hy : All2 ShC ys ys') : (eqStr xs ys).isSome = (eqStr xs' ys').isSome := by
  match xs, xs', hx with
  | [], [], _ => rfl
  | _ :: _ :: _, _ :: _ :: _, _ => simp [eqStr]
  | [c], [c'], hx =>
    obtain ⟨⟨k, d, d', rfl, rfl⟩, _⟩ := hx
    match ys, ys', hy with
    | [], [], _ => cases k <;> rfl
    | _ :: _ :: _, _ :: _ :: _, _ => cases k <;> simp [eqStr]
    | [e], [e'], hy =>
      obtain ⟨⟨k2, d2, d2', rfl, rfl⟩, _⟩ := hy
      cases k <;> cases k2 <;> simp [eqStr, mkC]
theorem eqBool_sh {xs xs' ys ys' : List C} (hx : All2 ShC xs xs') (hy : All2 ShC ys ys') : (eqBool xs ys).isSome = (eqBool xs' ys').isSome := by
  match xs, xs', hx with
  | [], [], _ => rfl
  | _ :: _ :: _, _ :: _ :: _, _ => simp [eqBool]
  | [c], [c'], hx =>
    obtain ⟨⟨k, d, d', rfl, rfl⟩, _⟩ := hx
    match ys, ys', hy with
    | [], [], _ => cases k <;> rfl
    | _ :: _ :: _, _ :: _ :: _, _ => cases k <;> simp [eqBool]
    | [e], [e'], hy =>
      obtain ⟨⟨k2, d2, d2', rfl, rfl⟩, _⟩ := hy
      cases k <;> cases k2 <;> simp [eqBool, mkC, boolC]
theorem foldr_optAnd_sh {α : Type} {f g : α → Option Bool} {stop : α → Bool} {l : List α} (h : ∀ x ∈ l, (f x).isSome = (g x).isSome) :
    (l.foldr (fun x r => bif stop x then none else optAnd (f x) r) (some true)).isSome = (l.foldr (fun x r => bif stop x then none else optAnd (g x) r) (some true)).isSome := by
  induction l with
  | nil => rfl
  | cons x l ih =>
    simp only [List.foldr_cons]
    cases stop x with
    | true => rfl
    | false => simp only [cond_false, optAnd_sh]; rw [h x (by simp), ih fun y hy => h y (by simp [hy])]
theorem foldr_optAnd_sh' {α : Type} {f g : α → Option Bool} {l : List α} (h : ∀ x ∈ l, (f x).isSome = (g x).isSome) :
    (l.foldr (fun x r => optAnd (f x) r) (some true)).isSome = (l.foldr (fun x r => optAnd (g x) r) (some true)).isSome := by
  induction l with
  | nil => rfl
  | cons x l ih =>
    simp only [List.foldr_cons, optAnd_sh]; rw [h x (by simp), ih fun y hy => h y (by simp [hy])]
theorem eqT_sh : ∀ (n : Nat) (T : TypeId) {xs xs' ys ys' : List C}, All2 ShC xs xs' → All2 ShC ys ys' → (eqT P n T xs ys).isSome = (eqT P n T xs' ys').isSome
  | 0, _, _, _, _, _, _, _ => rfl
  | n + 1, T, xs, xs', ys, ys', hx, hy => by
    simp only [eqT]
    split
    · exact eqInt_sh hx hy
    · exact eqBool_sh hx hy
    · exact eqStr_sh hx hy
    · cases P.stoodInHeld T with
      | true => rfl
      | false =>
        simp only [cond_false]
        exact foldr_optAnd_sh fun f _ => eqT_sh n f.type ((hx.drop _).take _) ((hy.drop _).take _)
    · rename_i len e _
      cases tyB P e with
      | false => rfl
      | true =>
        simp only [cond_true]
        exact foldr_optAnd_sh' fun i _ => eqT_sh n e ((hx.drop _).take _) ((hy.drop _).take _)
    · rfl
theorem eqD_sh (T : TypeId) (x y x' y' : D) : (eqD P T x y).isSome = (eqD P T x' y').isSome := eqT_sh 12 T (elCells_sh T x x') (elCells_sh T y y')
theorem eqD_B {T : TypeId} {k : D} {b : Bool} (h : eqD P T k k = some b) (x y : D) : eqD P T x y = some (eqB P T x y) := by
  have := eqD_sh (P := P) T x y k k
  rw [h] at this
  obtain ⟨c, hc⟩ := Option.isSome_iff_exists.1 (this.trans rfl)
  unfold eqB
  rw [hc]
  rfl
theorem findD_B {T : TypeId} {k : D} {b : Bool} (h : eqD P T k k = some b) : ∀ (es : List (D × D)), findD P T k es = some (findB P T k es)
  | [] => rfl
  | (k', v) :: r => by
    simp only [findD, findB, eqD_B h, findD_B h r]
theorem putD_B {T : TypeId} {k v : D} {b : Bool} (h : eqD P T k k = some b) : ∀ (es : List (D × D)), putD P T k v es = some (putB P T k v es)
  | [] => rfl
  | (k', v') :: r => by
    simp only [putD, putB, eqD_B h, putD_B h r]
theorem posD_eq {T : TypeId} {k : D} : ∀ {es : List (D × D)} {i : Nat} {x : D × D}, posD P T k es = some (some i) → es[i]? = some x → eqD P T k x.1 = some true
  | [], i, x, h, _ => by simp [posD] at h
  | (k', v) :: r, i, x, h, hx => by
    simp only [posD] at h
    split at h
    · rename_i e o he ho
      simp only [Option.some.injEq] at h
      cases e with
      | true =>
        simp only [cond_true, Option.some.injEq] at h
        subst h
        simp only [List.getElem?_cons_zero, Option.some.injEq] at hx
        subst hx
        exact he
      | false =>
        simp only [cond_false, Option.map_eq_some_iff] at h
        obtain ⟨j, rfl, rfl⟩ := h
        exact posD_eq ho (by simpa using hx)
    · cases h
theorem findD_pos {T : TypeId} {k : D} : ∀ {es : List (D × D)} {o : Option D}, findD P T k es = some o → ∃ p, posD P T k es = some p ∧ (∀ i, p = some i → i < es.length) ∧ o = p.bind fun i => (es[i]?).map (·.2)
  | [], o, h => by simp only [findD, Option.some.injEq] at h; subst h; exact ⟨none, rfl, by simp, rfl⟩
  | (k', v) :: r, o, h => by
    simp only [findD] at h
    split at h
    · rename_i e he
      split at h
      · rename_i o' ho'
        obtain ⟨p, h1, h2, h3⟩ := findD_pos ho'
        simp only [Option.some.injEq] at h
        subst h
        refine ⟨bif e then some 0 else p.map (· + 1), by simp only [posD, he, h1], ?_, ?_⟩
        · intro i hi
          cases e with
          | true => simp at hi; subst hi; simp
          | false =>
            simp only [cond_false, Option.map_eq_some_iff] at hi
            obtain ⟨j, hj, rfl⟩ := hi
            have := h2 j hj
            simp; omega
        · cases e with
          | true => simp
          | false => simp only [cond_false]; rw [h3]; cases p <;> simp
      · cases h
    · cases h
theorem putD_pos {T : TypeId} {k v : D} : ∀ {es es' : List (D × D)}, putD P T k v es = some es' → ∃ p, posD P T k es = some p ∧ (∀ i, p = some i → i < es.length) ∧ es' = (match p with | some i => es.set i (k, v) | none => es ++ [(k, v)])
  | [], es', h => by simp only [putD, Option.some.injEq] at h; subst h; exact ⟨none, rfl, by simp, rfl⟩
  | (k', v') :: r, es', h => by
    simp only [putD] at h
    split at h
    · rename_i e r' he hr'
      obtain ⟨p, h1, h2, h3⟩ := putD_pos hr'
      simp only [Option.some.injEq] at h
      subst h
      refine ⟨bif e then some 0 else p.map (· + 1), by simp only [posD, he, h1], ?_, ?_⟩
      · intro i hi
        cases e with
        | true => simp at hi; subst hi; simp
        | false =>
          simp only [cond_false, Option.map_eq_some_iff] at hi
          obtain ⟨j, hj, rfl⟩ := hi
          have := h2 j hj
          simp; omega
      · cases e with
        | true => simp
        | false => simp only [cond_false]; rw [h3]; cases p <;> simp
    · cases h
def foundAt (L : List MapEntry) (i0 : Nat) (p : Option Nat) : Option (Nat × Value) := p.map fun i => (i0 + i, (L.getD i default).val)
theorem run_findAsking {kt vt : TypeId} {k : D} {kv : Value} (hk : VRel P env S w (valueD P kt k) kv) : ∀ {es : List (D × D)} {L : List MapEntry} {p : Option Nat} (i0 : Nat), All2 (EntRel P env S w kt vt) es L → posD P kt k es = some p →
    (Instr.findAsking kt kv L i0).run P w = .ok (foundAt L i0 p) w
  | [], L, p, i0, hr, h => by
    cases L with
    | nil => simp only [posD, Option.some.injEq] at h; subst h; simp [Instr.findAsking, foundAt]
    | cons => exact hr.elim
  | (k', v') :: r, L, p, i0, hr, h => by
    cases L with
    | nil => exact hr.elim
    | cons en L =>
      simp only [posD] at h
      split at h
      · rename_i e o he ho
        simp only [Option.some.injEq] at h
        subst h
        obtain ⟨kd', hkd', hke⟩ := hr.1.1
        have he : eqD P kt k kd' = some e := (hke k).symm.trans he
        have heq := eqT_sound 12 kt _ _ e kv en.key he (ofT_valueD hk he) (ofT_valueD' hkd' he) Op.maxDepth (by decide)
        simp only [Instr.findAsking, Sem.run_bind, Op.equal, heq, Result.andThen_ok]
        cases e with
        | true => simp [foundAt]
        | false =>
          simp only [Bool.false_eq_true, if_false, cond_false]
          rw [run_findAsking hk (i0 + 1) hr.2 ho]
          cases o with
          | none => simp [foundAt]
          | some i => simp [foundAt]; omega
      · cases h
theorem eqT_int {n : Nat} {T : TypeId} {k : IntKind} {xs ys : List C} (hu : P.underlying T = some (.int k)) : eqT P (n + 1) T xs ys = eqInt xs ys := by simp only [eqT, hu]
theorem eqT_bool {n : Nat} {T : TypeId} {xs ys : List C} (hu : P.underlying T = some .bool) : eqT P (n + 1) T xs ys = eqBool xs ys := by simp only [eqT, hu]
theorem eqT_str {n : Nat} {T : TypeId} {xs ys : List C} (hu : P.underlying T = some .string) : eqT P (n + 1) T xs ys = eqStr xs ys := by simp only [eqT, hu]
theorem findNow_scalar {kt vt : TypeId} {k : D} {kv : Value} {kind : TypeDesc} (hu : P.underlying kt = some kind) (hs : (match kind with | .int _ | .bool | .string => true | _ => false) = true) (hk : VRel P env S w (valueD P kt k) kv) :
    ∀ {es : List (D × D)} {L : List MapEntry} {p : Option Nat} (i0 : Nat), All2 (EntRel P env S w kt vt) es L → posD P kt k es = some p → Instr.findNow kind kv L i0 = some (foundAt L i0 p)
  | [], L, p, i0, hr, h => by
    cases L with
    | nil => simp only [posD, Option.some.injEq] at h; subst h; simp [Instr.findNow, foundAt]
    | cons => exact hr.elim
  | (k', v') :: r, L, p, i0, hr, h => by
    cases L with
    | nil => exact hr.elim
    | cons en L =>
      simp only [posD] at h
      split at h
      · rename_i e o he ho
        simp only [Option.some.injEq] at h
        subst h
        obtain ⟨kd', hkd', hke⟩ := hr.1.1
        have he : eqD P kt k kd' = some e := (hke k).symm.trans he
        have o1 := ofT_valueD hk he
        have o2 := ofT_valueD' hkd' he
        have hsame : Instr.sameNow kind kv en.key = some e := by
          have ha : isAggB P kt = false := by unfold isAggB; rw [hu]; cases kind <;> first | rfl | cases hs
          unfold eqD at he
          cases kind <;> simp only at hs <;> try (cases hs; done)
          · obtain ⟨c, d, a, b, e1, e2, h3, h4, rfl⟩ := eqBool_sound (eqT_bool hu ▸ he)
            rw [e1] at o1
            rw [e2] at o2
            have h5 := boolC_sound h3 (ofT_one ha o1)
            have h6 := boolC_sound h4 (ofT_one ha o2)
            rw [h5, h6]; rfl
          · obtain ⟨k1, a, b, e1, e2, rfl⟩ := eqInt_sound (eqT_int hu ▸ he)
            rw [e1] at o1
            rw [e2] at o2
            have h5 : kv = .int k1 a := ofT_one (c := .i k1 a) ha o1
            have h6 : en.key = .int k1 b := ofT_one (c := .i k1 b) ha o2
            rw [h5, h6]; simp [Instr.sameNow]
          · obtain ⟨a, b, e1, e2, rfl⟩ := eqStr_sound (eqT_str hu ▸ he)
            rw [e1] at o1
            rw [e2] at o2
            have h5 : kv = .string ⟨a.toArray⟩ := ofT_one (c := .s a) ha o1
            have h6 : en.key = .string ⟨b.toArray⟩ := ofT_one (c := .s b) ha o2
            rw [h5, h6]
            simp only [Instr.sameNow, beq_toListBytes, toList_mk]
        simp only [Instr.findNow, hsame]
        cases e with
        | true => simp [foundAt]
        | false =>
          simp only [cond_false]
          rw [findNow_scalar hu hs hk (i0 + 1) hr.2 ho]
          cases o with
          | none => simp [foundAt]
          | some i => simp [foundAt]; omega
      · cases h
theorem eqT_cong : ∀ (n : Nat) (T : TypeId) (xs ys zs : List C), eqT P n T xs ys = some true → eqT P n T zs xs = eqT P n T zs ys
  | 0, _, _, _, _, h => by simp [eqT] at h
  | n + 1, T, xs, ys, zs, h => by
    simp only [eqT] at h ⊢
    split at h
    · rename_i k hu
      obtain ⟨k', a, b, rfl, rfl, hab⟩ := eqInt_sound h
      have : a = b := by simpa using hab.symm
      rw [this]
    · obtain ⟨c, d, a, b, rfl, rfl, h1, h2, hab⟩ := eqBool_sound h
      have : a = b := by simpa using hab.symm
      subst this
      unfold eqBool
      match zs with
      | [z] => simp only [h1, h2]
      | [] => rfl
      | _ :: _ :: _ => rfl
    · obtain ⟨a, b, rfl, rfl, hab⟩ := eqStr_sound h
      have : a = b := by simpa using hab.symm
      rw [this]
    · rename_i fs hu
      cases hs : P.stoodInHeld T with
      | true => rw [hs] at h; cases h
      | false =>
        rw [hs] at h
        simp only [cond_false] at h ⊢
        generalize fs.toList = l at h
        induction l with
        | nil => rfl
        | cons f l ih =>
          simp only [List.foldr_cons] at h ⊢
          cases hn : f.name == "_" with
          | true => rfl
          | false =>
            rw [hn] at h
            simp only [cond_false] at h ⊢
            obtain ⟨a, b, h1, h2, hab⟩ := optAnd_some h
            have hab' : a = true ∧ b = true := by simpa using hab.symm
            rw [hab'.1] at h1
            rw [hab'.2] at h2
            rw [eqT_cong n _ _ _ _ h1, ih h2]
    · rename_i len e hu
      cases ht : tyB P e with
      | false => rw [ht] at h; cases h
      | true =>
        rw [ht] at h
        simp only [cond_true] at h ⊢
        generalize List.range len = l at h
        induction l with
        | nil => rfl
        | cons i l ih =>
          simp only [List.foldr_cons] at h ⊢
          obtain ⟨a, b, h1, h2, hab⟩ := optAnd_some h
          have hab' : a = true ∧ b = true := by simpa using hab.symm
          rw [hab'.1] at h1
          rw [hab'.2] at h2
          rw [eqT_cong n _ _ _ _ h1, ih h2]
    · cases h
theorem run_findKey {kt vt : TypeId} {k : D} {kv : Value} (hk : VRel P env S w (valueD P kt k) kv) (hself : ∃ b, eqD P kt k k = some b) {es : List (D × D)} {L : List MapEntry} {p : Option Nat} (hr : All2 (EntRel P env S w kt vt) es L) (h : posD P kt k es = some p) :
    (Instr.findKey kt kv L).run P w = .ok (foundAt L 0 p) w := by
  obtain ⟨b, hb⟩ := hself
  have ht := eqT_ty hb
  unfold tyB at ht
  cases hu : P.underlying kt with
  | none => rw [hu] at ht; cases ht
  | some kind =>
    simp only [Instr.findKey, Sem.run_bind, run_underlying hu, Result.andThen_ok]
    have ask : (match Instr.findNow kind kv L 0 with | some r => pure r | none => Instr.findAsking kt kv L : Sem _).run P w = .ok (foundAt L 0 p) w := by
      by_cases hs : (match kind with | .int _ | .bool | .string => true | _ => false) = true
      · rw [findNow_scalar hu hs hk 0 hr h]; rfl
      · have hn : L = [] ∨ Instr.findNow kind kv L 0 = none := by
          cases L with
          | nil => exact .inl rfl
          | cons en L =>
            right
            have : Instr.sameNow kind kv en.key = none := by
              cases kind <;> first | (exact absurd rfl hs) | (simp [Instr.sameNow])
            simp [Instr.findNow, this]
        rcases hn with rfl | hn
        · cases es with
          | nil => simp only [posD, Option.some.injEq] at h; subst h; rfl
          | cons => exact hr.elim
        · rw [hn]; exact run_findAsking hk 0 hr h
    exact ask
end
end Go.AM
