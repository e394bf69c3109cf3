/- The abstract machine: what a call is given. -/
import Derived.Test.YtefmjfcdgadggaaAm20
set_option linter.all false
namespace Go.AM
open Go

/-- All the keys of the references differ. -/
def Nodup : List Ref → Prop
  | [] => True
  | r :: rs => (∀ x ∈ rs, x.key ≠ r.key) ∧ Nodup rs
theorem findRef_none {k : Nat} : ∀ {l : List Ref} {i : Nat}, findRef k l i = none → ∀ r ∈ l, r.key ≠ k
  | [], _, _, r, hr => by simp at hr
  | x :: l, i, h, r, hr => by
    simp only [findRef, beq_eq'] at h
    by_cases hx : x.key = k
    · rw [cond_true (by simpa using hx)] at h; cases h
    · rw [cond_false (by simpa using hx)] at h
      rcases List.mem_cons.1 hr with rfl | hr
      · exact hx
      · exact findRef_none h r hr
theorem findRef_some {k : Nat} : ∀ {l : List Ref} {i0 i : Nat} {r : Ref}, findRef k l i0 = some (i, r) → ∃ j, i = i0 + j ∧ l[j]? = some r ∧ r.key = k
  | [], _, _, _, h => by simp [findRef] at h
  | x :: l, i0, i, r, h => by
    simp only [findRef, beq_eq'] at h
    by_cases hx : x.key = k
    · rw [cond_true (by simpa using hx)] at h
      simp only [Option.some.injEq, Prod.mk.injEq] at h
      exact ⟨0, by omega, by simp [h.2], h.2 ▸ hx⟩
    · rw [cond_false (by simpa using hx)] at h
      obtain ⟨j, h1, h2, h3⟩ := findRef_some h
      exact ⟨j + 1, by omega, by simpa using h2, h3⟩
theorem nodup_snoc : ∀ {l : List Ref} {r : Ref}, Nodup l → (∀ x ∈ l, x.key ≠ r.key) → Nodup (l ++ [r])
  | [], r, _, _ => ⟨by simp, trivial⟩
  | y :: l, r, h, hr => by
    refine ⟨fun x hx => ?_, nodup_snoc h.2 fun x hx => hr x (by simp [hx])⟩
    rcases List.mem_append.1 hx with hx | hx
    · exact h.1 x hx
    · simp only [List.mem_singleton] at hx
      subst hx
      exact (hr y (by simp)).symm
theorem nodup_get : ∀ {l : List Ref} {i j : Nat} {r s : Ref}, Nodup l → l[i]? = some r → l[j]? = some s → r.key = s.key → i = j
  | [], i, _, _, _, _, hi, _, _ => by simp at hi
  | x :: l, 0, 0, _, _, _, _, _, _ => rfl
  | x :: l, 0, j + 1, r, s, h, hi, hj, e => by
    simp only [List.getElem?_cons_zero, Option.some.injEq] at hi
    subst hi
    exact absurd e.symm (h.1 s (List.mem_of_getElem? (by simpa using hj)))
  | x :: l, i + 1, 0, r, s, h, hi, hj, e => by
    simp only [List.getElem?_cons_zero, Option.some.injEq] at hj
    subst hj
    exact absurd e (h.1 r (List.mem_of_getElem? (by simpa using hi)))
  | x :: l, i + 1, j + 1, r, s, h, hi, hj, e => by
    exact congrArg (· + 1) (nodup_get h.2 (by simpa using hi) (by simpa using hj) e)
theorem collect_nodup {mem : AL Obj} : ∀ {n : Nat} {todo acc out : List Ref}, Nodup acc → collect mem n todo acc = some out → Nodup out
  | 0, _, _, _, _, h => by simp [collect] at h
  | n + 1, [], acc, out, hn, h => by simp only [collect, Option.some.injEq] at h; subst h; exact hn
  | n + 1, r :: rest, acc, out, hn, h => by
    simp only [collect] at h
    split at h
    · rename_i i r' _
      cases hb : Nat.beq r.off r'.off && sameSize r.size r'.size with
      | false => rw [hb] at h; cases h
      | true => rw [hb] at h; exact collect_nodup hn h
    · rename_i hf
      have hsn := nodup_snoc (r := r) hn fun x hx => findRef_none hf x hx
      split at h
      · cases h
      · split at h
        · exact collect_nodup hsn h
        · cases h
      · exact collect_nodup hsn h
theorem handed_get {mem : AL Obj} {acc : List Ref} : ∀ {l : List Ref} {i0 : Nat} {mem' : AL Obj}, handed mem acc l i0 = some mem' →
    (∀ i ob, get mem' i = some ob → ∃ j r, i = i0 + j ∧ l[j]? = some r ∧ ∃ o, get mem r.key = some o ∧
      ((∃ cs sub sub', o = .box cs ∧ subBox cs r = some sub ∧ renCs acc sub = some sub' ∧ ob = .box sub') ∨ (∃ e ex nl xs, o = .row e ex nl xs ∧ r.off = 0 ∧ ob = o) ∨ (∃ kt vt es, o = .map kt vt es ∧ r.off = 0 ∧ ob = o))) ∧
    mem'.length = l.length ∧ (∀ j, j < l.length → (get mem' (i0 + j)).isSome)
  | [], i0, mem', h => by
    simp only [handed, Option.some.injEq] at h
    subst h
    exact ⟨fun i ob hg => (by cases hg), rfl, fun j hj => (by simp at hj)⟩
  | r :: rs, i0, mem', h => by
    have step : ∀ (ob : Obj) (rest : AL Obj) (o : Obj), get mem r.key = some o → handed mem acc rs (i0 + 1) = some rest → mem' = (i0, ob) :: rest →
        ((∃ cs sub sub', o = .box cs ∧ subBox cs r = some sub ∧ renCs acc sub = some sub' ∧ ob = .box sub') ∨ (∃ e ex nl xs, o = .row e ex nl xs ∧ r.off = 0 ∧ ob = o) ∨ (∃ kt vt es, o = .map kt vt es ∧ r.off = 0 ∧ ob = o)) →
        (∀ i ob, get mem' i = some ob → ∃ j r', i = i0 + j ∧ (r :: rs)[j]? = some r' ∧ ∃ o, get mem r'.key = some o ∧
          ((∃ cs sub sub', o = .box cs ∧ subBox cs r' = some sub ∧ renCs acc sub = some sub' ∧ ob = .box sub') ∨ (∃ e ex nl xs, o = .row e ex nl xs ∧ r'.off = 0 ∧ ob = o) ∨ (∃ kt vt es, o = .map kt vt es ∧ r'.off = 0 ∧ ob = o))) ∧
        mem'.length = (r :: rs).length ∧ (∀ j, j < (r :: rs).length → (get mem' (i0 + j)).isSome) := by
      intro ob rest o hg hrest he hob
      subst he
      obtain ⟨h1, h2, h3⟩ := handed_get hrest
      refine ⟨fun i ob' hi => ?_, by simp [h2], fun j hj => ?_⟩
      · simp only [get, beq_eq'] at hi
        by_cases hii : i0 = i
        · rw [cond_true (by simpa using hii)] at hi
          simp only [Option.some.injEq] at hi
          subst hi
          exact ⟨0, r, by omega, by simp, o, hg, hob⟩
        · rw [cond_false (by simpa using hii)] at hi
          obtain ⟨j, r', e1, e2, e3⟩ := h1 i ob' hi
          exact ⟨j + 1, r', by omega, by simpa using e2, e3⟩
      · simp only [get, beq_eq']
        cases j with
        | zero => simp
        | succ j =>
          rw [cond_false (by simp)]
          have := h3 j (by simp at hj; omega)
          rwa [show i0 + (j + 1) = i0 + 1 + j by omega]
    simp only [handed] at h
    split at h
    · rename_i cs rest hg hrest
      split at h
      · rename_i sub hsub
        split at h
        · rename_i sub' hsub'
          simp only [Option.some.injEq] at h
          exact step _ rest _ hg hrest h.symm (.inl ⟨cs, sub, sub', rfl, hsub, hsub', rfl⟩)
        · cases h
      · cases h
    · rename_i e ex nl xs rest hg hrest
      cases ho : Nat.beq r.off 0 with
      | false => rw [ho] at h; cases h
      | true =>
        rw [ho] at h
        simp only [cond_true, Option.some.injEq] at h
        exact step _ rest _ hg hrest h.symm (.inr (.inl ⟨e, ex, nl, xs, rfl, Nat.eq_of_beq_eq_true ho, rfl⟩))
    · rename_i kt vt es rest hg hrest
      cases ho : Nat.beq r.off 0 with
      | false => rw [ho] at h; cases h
      | true =>
        rw [ho] at h
        simp only [cond_true, Option.some.injEq] at h
        exact step _ rest _ hg hrest h.symm (.inr (.inr ⟨kt, vt, es, rfl, Nat.eq_of_beq_eq_true ho, rfl⟩))
    · cases h
section
variable {P : Program} {env : Env} {S : Stab} {w : World}
/-- The slots that a call sees. -/
def envC (acc : List Ref) (env : Env) : Env := fun i => match acc[i]? with
  | some r => ⟨(env r.key).blk, (env r.key).base + r.off, (env r.key).head⟩
  | none => ⟨0, 0, none⟩
theorem envC_get {acc : List Ref} {i : Nat} {r : Ref} (h : acc[i]? = some r) : envC acc env i = ⟨(env r.key).blk, (env r.key).base + r.off, (env r.key).head⟩ := by simp [envC, h]
theorem renC_sound {acc : List Ref} {S' : Stab} (hk : Keeps w S w S') {c c' : C} {v : Value} (h : renC acc c = some c') (hc : CRel P env S w c v) : CRel P (envC acc env) S' w c' v := by
  cases c with
  | p k o =>
    simp only [renC] at h
    split at h
    · rename_i i r hf
      obtain ⟨j, e1, e2, e3⟩ := findRef_some hf
      cases hb : Nat.ble r.off o with
      | false => rw [hb] at h; cases h
      | true =>
        rw [hb] at h
        simp only [cond_true, Option.some.injEq] at h
        subst h e1 e3
        have hle := Nat.le_of_ble_eq_true hb
        simp only [CRel, Nat.zero_add, envC_get e2] at hc ⊢
        rw [hc]
        congr 3
        omega
    · cases h
  | o k =>
    simp only [renC] at h
    split at h
    · rename_i i r hf
      obtain ⟨j, e1, e2, e3⟩ := findRef_some hf
      simp only [Option.some.injEq] at h
      subst h e1 e3
      simp only [CRel, Nat.zero_add, envC_get e2] at hc ⊢
      rw [hc]
      rfl
    · cases h
  | m k =>
    simp only [renC] at h
    split at h
    · rename_i i r hf
      obtain ⟨j, e1, e2, e3⟩ := findRef_some hf
      simp only [Option.some.injEq] at h
      subst h e1 e3
      simp only [CRel, Nat.zero_add, envC_get e2] at hc ⊢
      exact hc
    · cases h
  | f fn caps =>
    simp only [renC] at h
    split at h
    · rename_i cs hcs
      simp only [Option.some.injEq] at h
      subst h
      simp only [CRel] at hc ⊢
      rw [hc]
      congr 2
      clear hc
      induction caps generalizing cs with
      | nil => simp only [renCaps, Option.some.injEq] at hcs; subst hcs; rfl
      | cons x caps ih =>
        simp only [renCaps] at hcs
        split at hcs
        · rename_i y ys hy hys
          simp only [Option.some.injEq] at hcs
          subst hcs
          simp only [List.map_cons]
          rw [ih ys hys]
          congr 1
          unfold renCap at hy
          split at hy
          · rename_i i r hx
            obtain ⟨j, e1, e2, e3⟩ := findRef_some hx
            cases hb : Nat.ble r.off x.2 with
            | false => rw [hb] at hy; cases hy
            | true =>
              have hle := Nat.le_of_ble_eq_true hb
              rw [hb] at hy
              simp only [cond_true, Option.some.injEq] at hy
              subst hy e1
              simp only [capV, Nat.zero_add, envC_get e2, e3]
              congr 3
              omega
          · cases hy
        · cases hcs
    · cases h
  | re => simp [renC] at h
  | pi => simp [renC] at h
  | el => simp [renC] at h
  | sl e n xs => simp only [renC, Option.some.injEq] at h; subst h; exact RepD.mono hk hc
  | _ => simp only [renC, Option.some.injEq] at h; subst h; exact hc
theorem renCs_sound {acc : List Ref} {S' : Stab} (hk : Keeps w S w S') : ∀ {cs cs' : List C} {us : List Value}, renCs acc cs = some cs' → All2 (CRel P env S w) cs us → All2 (CRel P (envC acc env) S' w) cs' us
  | [], cs', us, h, hr => by cases us with
    | nil => simp only [renCs, Option.some.injEq] at h; subst h; trivial
    | cons => exact hr.elim
  | c :: cs, cs', us, h, hr => by
    cases us with
    | nil => exact hr.elim
    | cons u us =>
      simp only [renCs] at h
      split at h
      · rename_i x xs hx hxs
        simp only [Option.some.injEq] at h
        subst h
        exact ⟨renC_sound hk hx hr.1, renCs_sound hk hxs hr.2⟩
      · cases h
theorem renV_sound {acc : List Ref} {S' : Stab} (hk : Keeps w S w S') {x x' : V} {v : Value} (h : renV acc x = some x') (hx : VRel P env S w x v) : VRel P (envC acc env) S' w x' v := by
  cases x with
  | c c =>
    simp only [renV] at h
    split at h
    · rename_i y hy
      simp only [Option.some.injEq] at h
      subst h
      exact renC_sound hk hy hx
    · cases h
  | g xs =>
    simp only [renV] at h
    split at h
    · rename_i ys hys
      simp only [Option.some.injEq] at h
      subst h
      obtain ⟨vs, h1, h2⟩ := hx
      exact ⟨vs, h1, renCs_sound hk hys h2⟩
    · cases h
  | _ => simp [renV] at h
theorem renVs_sound {acc : List Ref} {S' : Stab} (hk : Keeps w S w S') : ∀ {xs xs' : List V} {vs : List Value}, renVs acc xs = some xs' → All2 (VRel P env S w) xs vs → All2 (VRel P (envC acc env) S' w) xs' vs
  | [], xs', vs, h, hr => by cases vs with
    | nil => simp only [renVs, Option.some.injEq] at h; subst h; trivial
    | cons => exact hr.elim
  | c :: cs, cs', us, h, hr => by
    cases us with
    | nil => exact hr.elim
    | cons u us =>
      simp only [renVs] at h
      split at h
      · rename_i x xs hx hxs
        simp only [Option.some.injEq] at h
        subst h
        exact ⟨renV_sound hk hx hr.1, renVs_sound hk hxs hr.2⟩
      · cases h
theorem renCs_length {acc : List Ref} : ∀ {cs cs' : List C}, renCs acc cs = some cs' → cs'.length = cs.length
  | [], cs', h => by simp only [renCs, Option.some.injEq] at h; subst h; rfl
  | c :: cs, cs', h => by
    simp only [renCs] at h
    split at h
    · rename_i x xs hx hxs
      simp only [Option.some.injEq] at h
      subst h
      simp [renCs_length hxs]
    · cases h
end
end Go.AM
