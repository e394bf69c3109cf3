/- The abstract machine: regions. -/
import Derived.Test.YtefmjfcdgadggaaAm26
set_option linter.all false
namespace Go.AM
open Go

section
variable {P : Program} {N n0 kb : Nat} {F : Nat → Prop} {B M0 : Stab} {w0 : World} {e0 env : Env} {st : St} {a : Act} {w : World}
theorem getD_bool {a : Act} {t : Nat} {x : Bool} (h : a.tmps.getD t undef = .bool x) : a.tmps[t]? = some (.bool x) := by
  rw [Array.getD_eq_getD_getElem?] at h
  cases hg : a.tmps[t]? with
  | none => rw [hg] at h; cases h
  | some v => rw [hg] at h; simp only [Option.getD_some] at h; rw [h]
theorem yields_bool {t : Nat} {x want : Bool} (h : a.tmps.getD t undef = .bool x) : yieldsA a t want ↔ x = want := by
  unfold yieldsA
  rw [getD_bool h]
  simp
theorem yields_undef {t : Nat} {want : Bool} (h : a.tmps.getD t undef = undef) : ¬ yieldsA a t want := by
  intro hy
  unfold yieldsA at hy
  rw [Array.getD_eq_getD_getElem?, hy] at h
  cases h
theorem toB_val {S : Stab} {y : V} {z : Bool} {v : Value} (h : toB y = some z) (hv : VRel P env S w y v) : v = .bool z := by
  unfold toB at h
  split at h
  · simp only [Option.some.injEq] at h; subst h; exact hv
  · simp only [Option.some.injEq] at h; subst h; exact hv
  · cases h
theorem isNo_undef {v : Value} (h : isNo v = true) : v = undef := by
  unfold isNo at h
  split at h
  · rename_i vs
    have hs := Nat.eq_of_beq_eq_true h
    have : vs = #[] := Array.eq_empty_of_size_eq_zero hs
    rw [this]
    rfl
  · cases h
theorem yields_sound (h : Rel P N n0 B M0 w0 F e0 env st a w) : ∀ {n t : Nat} {want c : Bool}, yields st n t want = some c → (c = true ↔ yieldsA a t want)
  | 0, _, _, _, hy => by cases hy
  | n + 1, t, want, c, hy => by
    simp only [yields] at hy
    split at hy
    · rename_i x hg
      have hv : a.tmps.getD t undef = .bool x := h.tm t _ hg
      simp only [Option.some.injEq] at hy
      rw [yields_bool hv, ← hy]
      simp
    · rename_i x hg
      have hv : a.tmps.getD t undef = .bool x := h.tm t _ hg
      simp only [Option.some.injEq] at hy
      rw [yields_bool hv, ← hy]
      simp
    · rename_i s b y hg
      obtain ⟨h1, h2⟩ := h.tm t _ hg
      split at hy
      · rename_i z c' hz hc
        simp only [Option.some.injEq] at hy
        have ih := yields_sound h hc
        subst hy
        cases c' with
        | true =>
          rw [yields_bool (toB_val hz (h1 (ih.1 rfl)))]
          simp
        | false =>
          have := yields_undef (want := want) (h2 fun hy => by have := ih.2 hy; cases this)
          simp [this]
      · cases hy
    · rename_i v hg
      cases hno : isNo v with
      | false => rw [hno] at hy; cases hy
      | true =>
        have hv : a.tmps.getD t undef = undef := (show _ = v from h.tm t _ hg).trans (isNo_undef hno)
        rw [hno] at hy
        simp only [cond_true, Option.some.injEq] at hy
        subst hy
        simp [yields_undef hv]
    · cases hy
theorem known_sound (h : Rel P N n0 B M0 w0 F e0 env st a w) {t : Nat} {want c : Bool} (hy : known st t want = some c) : (c = true ↔ yieldsA a t want) := by
  unfold known at hy
  split at hy
  · rename_i x hg
    have hv : a.tmps.getD t undef = .bool x := h.tm t _ hg
    simp only [Option.some.injEq] at hy
    rw [yields_bool hv, ← hy]
    simp
  · rename_i v hg
    cases hno : isNo v with
    | false => rw [hno] at hy; cases hy
    | true =>
      have hv : a.tmps.getD t undef = undef := (show _ = v from h.tm t _ hg).trans (isNo_undef hno)
      rw [hno] at hy
      simp only [cond_true, Option.some.injEq] at hy
      subst hy
      simp [yields_undef hv]
  · cases hy
theorem Rel.tmps (h : Rel P N n0 B M0 w0 F e0 env st a w) {tmps : AL V} (ht : ∀ t x, get tmps t = some x → VRelA P env (Sof P B M0 n0 env st.mem w) w a x (a.tmps.getD t undef)) : Rel P N n0 B M0 w0 F e0 env { st with tmps } a w :=
  ⟨h.size, h.dfr, h.hn0, ht, h.ob, h.ds, h.mu, h.pr, h.ch, h.bb, h.fx⟩
theorem settle_sound (h : Rel P N n0 B M0 w0 F e0 env st a w) {t : Nat} {x : Bool} (hv : a.tmps.getD t undef = .bool x) : Rel P N n0 B M0 w0 F e0 env (settle t x st) a w := by
  refine h.tmps fun t' y hy => ?_
  rw [get_set] at hy
  by_cases ht : t' = t
  · rw [if_pos ht] at hy
    simp only [Option.some.injEq] at hy
    subst hy ht
    exact hv
  · rw [if_neg ht, get_mapV] at hy
    cases hg : get st.tmps t' with
    | none => rw [hg] at hy; cases hy
    | some z =>
      rw [hg] at hy
      simp only [Option.map_some, Option.some.injEq] at hy
      subst hy
      have hz := h.tm t' z hg
      cases z with
      | w s b y =>
        simp only [settle1, beq_eq']
        by_cases hs : s = t
        · subst hs
          rw [cond_true (by simp)]
          by_cases hb : b = x
          · subst hb
            rw [cond_true (by simp)]
            exact VRelA.of (hz.1 ((yields_bool hv).2 rfl))
          · rw [cond_false (by simpa using hb)]
            exact hz.2 fun hy => hb ((yields_bool hv).1 hy).symm
        · rw [cond_false (by simpa using hs)]
          exact hz
      | _ => exact hz
theorem guardBr_sound {R : Type} {r : R} : ∀ {n t : Nat} {want : Bool} {st : St} {yes no : St → Option R}, Rel P N n0 B M0 w0 F e0 env st a w → guardBr n t want st yes no = some r →
    (yieldsA a t want ∧ ∃ st', Rel P N n0 B M0 w0 F e0 env st' a w ∧ yes st' = some r) ∨ (¬ yieldsA a t want ∧ ∃ st', Rel P N n0 B M0 w0 F e0 env st' a w ∧ no st' = some r)
  | 0, _, _, _, _, _, _, hg => by cases hg
  | n + 1, t, want, st, yes, no, h, hg => by
    simp only [guardBr] at hg
    split at hg
    · rename_i x hx
      have hv : a.tmps.getD t undef = .bool x := h.tm t _ hx
      rw [yields_bool hv]
      by_cases hw : x = want
      · rw [cond_true (by simpa using hw)] at hg; exact .inl ⟨hw, st, h, hg⟩
      · rw [cond_false (by simpa using hw)] at hg; exact .inr ⟨hw, st, h, hg⟩
    · rename_i v hx
      cases hno : isNo v with
      | false => rw [hno] at hg; cases hg
      | true =>
        have hv : a.tmps.getD t undef = undef := (show _ = v from h.tm t _ hx).trans (isNo_undef hno)
        rw [hno] at hg
        exact .inr ⟨yields_undef hv, st, h, hg⟩
    · rename_i x hx
      have hv : a.tmps.getD t undef = .bool x := h.tm t _ hx
      rw [yields_bool hv]
      have hs := settle_sound h hv
      cases x <;> cases want <;> simp only [cond_true, cond_false] at hg
      · exact .inl ⟨rfl, _, hs, hg⟩
      · exact .inr ⟨by simp, _, hs, hg⟩
      · exact .inr ⟨by simp, _, hs, hg⟩
      · exact .inl ⟨rfl, _, hs, hg⟩
    · rename_i s b y hx
      obtain ⟨_, h2⟩ := h.tm t _ hx
      rcases guardBr_sound h hg with ⟨h3, st', h4, h5⟩ | ⟨h3, st', h4, h5⟩
      · exact guardBr_sound h4 h5
      · exact .inr ⟨yields_undef (h2 h3), st', h4, h5⟩
    · cases hg
theorem val_wp {R : Type} {o : Oper} {k : St → Option R} {r : R} {Q : Exit → Act → World → Prop} {e : Operand → V} {ew : Nat → Bool → Operand → V} {x : V} (h : Rel P N n0 B M0 w0 F e0 env st a w)
    (he : ∀ x, VRel P env (Sof P B M0 n0 env st.mem w) w (e x) (a.eval x)) (hew : ∀ t b x, yieldsA a t b → VRelA P env (Sof P B M0 n0 env st.mem w) w a (ew t b x) (a.eval x)) (hv : valOp P st.mem e ew o = some (true, x))
    (hk : ∀ v, VRel P env (Sof P B M0 n0 env st.mem w) w x v → After P N n0 B M0 w0 F e0 k r (a.put o.dst v) w) : o.wp P a w (After P N n0 B M0 w0 F e0 k r) Q := by
  obtain ⟨v, h1, h2⟩ := val_sound h.ob h.rows he hew hv
  exact wp_value h1 (hk v h2)
theorem opC_sound {R : Type} {cl : Oracle} (hcl : OracleOk P cl) {o : Oper} {k : St → Option R} {r : R} {Q : Exit → Act → World → Prop} (hF : ∀ k, freshB kb o k = true → ¬ F k) (h : Rel P N n0 B M0 w0 F e0 env st a w) (hd : ∀ d, o.dst = some d → d < N) (hk : opC P cl kb o st k = some r) :
    o.wp P a w (After P N n0 B M0 w0 F e0 k r) Q := by
  unfold opC at hk
  cases hv : isVal o with
  | false => rw [hv] at hk; exact stOp_sound hcl hF hv h hd hk
  | true =>
    rw [hv] at hk
    simp only [cond_true] at hk
    split at hk
    · rename_i c x hval
      cases c with
      | false => cases hk
      | true => exact val_wp h h.evu h.evw hval fun v hvx => ⟨env, _, h.put hd (VRelA.of hvx), hk⟩
    · cases hk
theorem evg_sound (h : Rel P N n0 B M0 w0 F e0 env st a w) {t : Nat} {want : Bool} (hy : yieldsA a t want) (x : Operand) : VRel P env (Sof P B M0 n0 env st.mem w) w (evg st t want x) (a.eval x) := by
  unfold evg
  have hx := h.ev x
  split
  · rename_i s b y he
    rw [he] at hx
    simp only [unwrap]
    cases hc : Nat.beq s t && (b == want) with
    | false => trivial
    | true =>
      simp only [Bool.and_eq_true] at hc
      have h1 := Nat.eq_of_beq_eq_true hc.1
      have h2 := eq_of_beq hc.2
      subst h1 h2
      exact hx.1 hy
  · rename_i he
    cases hv : AM.ev st x with
    | w s b y => exact absurd hv (he s b y)
    | _ => rw [hv] at hx; exact hx
theorem evgw_sound (h : Rel P N n0 B M0 w0 F e0 env st a w) {t : Nat} {want : Bool} (hy : yieldsA a t want) (t' : Nat) (w' : Bool) (x : Operand) (hy' : yieldsA a t' w') : VRelA P env (Sof P B M0 n0 env st.mem w) w a (evgw st t want t' w' x) (a.eval x) := by
  unfold evgw
  have hx := h.ev x
  split
  · rename_i s b y he
    rw [he] at hx
    cases hc : Nat.beq s t' && (b == w') with
    | true =>
      simp only [Bool.and_eq_true] at hc
      have h1 := Nat.eq_of_beq_eq_true hc.1
      have h2 := eq_of_beq hc.2
      subst h1 h2
      exact VRelA.of (hx.1 hy')
    | false => exact vrelA_unwrap hy hx
  · exact hx
theorem guarded_sound {R : Type} {cl : Oracle} (hcl : OracleOk P cl) {ops : Array Oper} {o : Oper} {k : St → Option R} {r : R} {Q : Exit → Act → World → Prop} (hF : ∀ k, freshB kb o k = true → ¬ F k) (h : Rel P N n0 B M0 w0 F e0 env st a w) (hd : ∀ d, o.dst = some d → d < N) (hk : guarded P cl kb ops.toList o st k = some r) :
    if Region.wanted o (yielded ops a.tmps) then o.wp P a w (After P N n0 B M0 w0 F e0 k r) Q else After P N n0 B M0 w0 F e0 k r (a.put o.dst undef) w := by
  unfold guarded at hk
  split at hk
  · rename_i hg
    rw [if_pos (by simp [Region.wanted, hg])]
    exact opC_sound hcl hF h hd hk
  · rename_i j want hg
    split at hk
    · cases hk
    · rename_i t ht
      have hw : Region.wanted o (yielded ops a.tmps) = true ↔ yieldsA a t want := by
        unfold guardSlot at ht
        rw [Array.getElem?_toList] at ht
        simp only [Region.wanted, hg, yielded, ht, Option.bind_some, yieldsA]
        cases a.tmps[t]? with
        | none => simp
        | some v => cases v <;> simp
      have skip : ∀ {st' : St}, Rel P N n0 B M0 w0 F e0 env st' a w → k (st'.put o.dst noVal) = some r → After P N n0 B M0 w0 F e0 k r (a.put o.dst undef) w :=
        fun h' hk' => ⟨env, _, h'.put hd (show VRelA P env _ w a noVal undef from rfl), hk'⟩
      split at hk
      · rename_i x hx
        have := known_sound h hx
        cases x with
        | true => rw [if_pos (hw.2 (this.1 rfl))]; exact opC_sound hcl hF h hd hk
        | false => rw [if_neg (fun hc => by have := this.2 (hw.1 hc); cases this)]; exact skip h hk
      · cases hv : isVal o with
        | true =>
          rw [hv] at hk
          simp only [cond_true] at hk
          split at hk
          · rename_i c cond x hc hval
            have hyc := yields_sound h hc
            cases hb : (bif cond then true else !c) with
            | false => rw [hb] at hk; cases hk
            | true =>
              rw [hb] at hk
              by_cases hy : yieldsA a t want
              · rw [if_pos (hw.2 hy)]
                have : c = true := hyc.2 hy
                subst this
                have : cond = true := by cases cond <;> simp at hb ⊢
                subst this
                exact val_wp h (evg_sound h hy) (fun t' b' x' hy' => evgw_sound h hy t' b' x' hy') hval fun v hvx => ⟨env, _, h.put hd (x := .w t want x) ⟨fun _ => hvx, fun hn => absurd hy hn⟩, hk⟩
              · rw [if_neg (fun hc => hy (hw.1 hc))]
                exact ⟨env, _, h.put hd (x := .w t want x) ⟨fun hy' => absurd hy' hy, fun _ => rfl⟩, hk⟩
          · cases hk
        | false =>
          rw [hv] at hk
          simp only [cond_false] at hk
          rcases guardBr_sound h hk with ⟨h1, st', h2, h3⟩ | ⟨h1, st', h2, h3⟩
          · rw [if_pos (hw.2 h1)]; exact opC_sound hcl hF h2 hd h3
          · rw [if_neg (fun hc => h1 (hw.1 hc))]; exact skip h2 h3
theorem freshB_le {o : Oper} {k : Nat} (h : freshB kb o k = true) : kb ≤ k := by
  unfold freshB at h
  cases hv : isVal o with
  | true => rw [hv] at h; cases h
  | false =>
  rw [hv, cond_false rfl] at h
  cases he : isEnter o with
  | true =>
    rw [he, cond_true rfl] at h
    simp only [Bool.and_eq_true] at h
    exact Nat.le_trans (kb_le_newBase _ _) (Nat.le_of_ble_eq_true h.1)
  | false =>
    rw [he, cond_false rfl] at h
    split at h
    · have := Nat.eq_of_beq_eq_true h; omega
    · cases h
theorem freshB_kb {o : Oper} (hF : ∀ k, F k → k < kb) : ∀ k, freshB kb o k = true → ¬ F k := fun k h1 h2 => by
  have := freshB_le h1
  have := hF k h2
  omega
theorem regOps_sound {R : Type} {cl : Oracle} (hcl : OracleOk P cl) {ops : Array Oper} {k : St → Option R} {r : R} {Q : Exit → Act → World → Prop} (hF : ∀ k, F k → k < kb) (hQ : ∀ a w, After P N n0 B M0 w0 F e0 k r a w → Q .normal a w) :
    ∀ {l : List Oper} {env : Env} {st : St} {a : Act} {w : World}, Rel P N n0 B M0 w0 F e0 env st a w → (∀ o ∈ l, ∀ d, o.dst = some d → d < N) → regOps P cl kb ops.toList l st k = some r → wpList P ops Q l a w
  | [], env, st, a, w, h, _, hk => by
    refine hQ a w ⟨env, _, h.tmps fun t x hx => ?_, hk⟩
    rw [get_mapV] at hx
    cases hg : get st.tmps t with
    | none => rw [hg] at hx; cases hx
    | some y =>
      rw [hg] at hx
      simp only [Option.map_some, Option.some.injEq] at hx
      subst hx
      exact VRelA.of (vrelA_untag (h.tm t y hg))
  | o :: rest, env, st, a, w, h, hd, hk => by
    have ho := guarded_sound (Q := Q) hcl (freshB_kb hF) h (hd o (by simp)) hk
    have next : ∀ a w, After P N n0 B M0 w0 F e0 (fun st' => regOps P cl kb ops.toList rest st' k) r a w → wpList P ops Q rest a w := by
      rintro a w ⟨env', st', h1, h2⟩
      exact regOps_sound hcl hF hQ h1 (fun o' ho' => hd o' (by simp [ho'])) h2
    unfold wpList
    split
    · rename_i hw
      rw [if_pos hw] at ho
      exact .inl (Oper.wp_mono next ho)
    · rename_i hw
      rw [if_neg hw] at ho
      exact next _ _ ho
end
end Go.AM
