/- The abstract machine: regions whose order is drawn, one operation. -/
import Derived.Test.YtefmjfcdgadggaaAm30
import Derived.Orders
set_option linter.all false
namespace Go.AM
open Go

/-! ### What goes on behind an operation is told at its end -/
theorem cond_bind {α β : Type} (b : Bool) (x y : Option α) (k : α → Option β) : (bif b then x else y).bind k = bif b then x.bind k else y.bind k := by cases b <;> rfl
theorem callOp_bind {R : Type} {P : Program} {cl : Oracle} {kb : Nat} {f : FuncId} {args : List V} {o : Oper} {st : St} {k : St → Option R} : callOp P cl kb f args o st k = (callOp P cl kb f args o st some).bind k := by
  unfold callOp
  split
  · rfl
  · simp only
    split
    · rfl
    · split
      · split
        · rfl
        rename_i alts _
        rw [altK_bind]
        conv => rhs; rw [altK_bind, Option.bind_assoc]
        cases altK alts some with
        | none => rfl
        | some r =>
        simp only [Option.bind_some]
        generalize (closedRes r && _ && _) = b
        cases b with
        | false => rfl
        | true =>
          simp only [cond_true]
          split <;> rfl
      · rfl
theorem stOp_bind {R : Type} {P : Program} {cl : Oracle} {kb : Nat} {o : Oper} {st : St} {k : St → Option R} : stOp P cl kb o st k = (stOp P cl kb o st some).bind k := by
  unfold stOp
  simp only
  split
  · split <;> rfl
  · split <;> rfl
  · split
    · rw [cond_bind]; rfl
    · rfl
  · split
    · split
      · split
        · rw [cond_bind]; rfl
        · rfl
      · rfl
    · rfl
  · split
    · split
      · rw [cond_bind]; rfl
      · rfl
    · rfl
  · split <;> rfl
  · split
    · split
      · rw [cond_bind]
        congr 1
        split
        · split <;> rfl
        · rfl
      · rfl
    · rfl
  · split
    · split
      · rw [cond_bind]
        congr 1
        split
        · rw [cond_bind]
          congr 1
          split
          · split
            · split
              · rw [cond_bind]; rfl
              · rfl
            · rw [cond_bind]; rfl
            · rw [cond_bind]; rfl
            · rfl
          · rfl
        · rfl
      · rfl
    · split
      · exact callOp_bind
      · rfl
    · rfl
  · rfl
theorem opC_bind {R : Type} {P : Program} {cl : Oracle} {kb : Nat} {o : Oper} {st : St} {k : St → Option R} : opC P cl kb o st k = (opC P cl kb o st some).bind k := by
  unfold opC
  rw [cond_bind]
  congr 1
  · split
    · rw [cond_bind]; rfl
    · rfl
  · exact stOp_bind
theorem guardedD_bind {R : Type} {P : Program} {cl : Oracle} {kb : Nat} {ops : List Oper} {o : Oper} {st : St} {k : St → Option R} : guardedD P cl kb ops o st k = (guardedD P cl kb ops o st some).bind k := by
  unfold guardedD
  split
  · exact opC_bind
  · split
    · rfl
    · split
      · rw [cond_bind]; rw [← opC_bind]; rfl
      · rfl
theorem settleK_bind {R : Type} {gs : List Nat} {o : Oper} {out : St} {k : St → Option R} : settleK gs o out k = (settleK gs o out some).bind k := by
  unfold settleK
  split
  · rw [cond_bind]
    congr 1
    split
    · rw [cond_bind]; rfl
    · rfl
  · rfl
/-- One operation, run on what it leans on. -/
structure RecOk (P : Program) (cl : Oracle) (kb : Nat) (ops : List Oper) (gs : List Nat) (o : Oper) (st : St) (rec : Rec) : Prop where
  op : rec.o = o
  ks : reach st.mem (isEnter o) 1000 (slotKeys st.tmps (looks ops o)) [] = some rec.ks
  out : (guardedD P cl kb ops o (mini ops o st rec.ks) fun out => settleK gs o out some) = some rec.out
theorem stepC_rec {R : Type} {P : Program} {cl : Oracle} {kb : Nat} {ops : List Oper} {gs : List Nat} {o : Oper} {st : St} {k : St → Rec → Option R} {r : R} (h : stepC P cl kb ops gs o st k = some r) :
    ∃ rec, RecOk P cl kb ops gs o st rec ∧ k (merge kb o rec.ks st rec.out) rec = some r := by
  unfold stepC at h
  split at h
  · cases h
  · rename_i ks hks
    rw [guardedD_bind] at h
    cases h1 : guardedD P cl kb ops o (mini ops o st ks) some with
    | none => rw [h1] at h; cases h
    | some out =>
      rw [h1] at h
      simp only [Option.bind_some] at h
      rw [settleK_bind] at h
      cases h2 : settleK gs o out some with
      | none => rw [h2] at h; cases h
      | some out' =>
        rw [h2] at h
        refine ⟨⟨o, ks, out'⟩, ⟨rfl, hks, ?_⟩, h⟩
        rw [guardedD_bind, h1]
        exact h2

/-! ### It is sound -/
section
variable {P : Program} {N n0 kb : Nat} {F : Nat → Prop} {B M0 : Stab} {w0 : World} {e0 env : Env} {st : St} {a : Act} {w : World}
theorem guardedD_guarded {R : Type} {cl : Oracle} {ops : List Oper} {o : Oper} {k : St → Option R} {r : R} (h : guardedD P cl kb ops o st k = some r) : guarded P cl kb ops o st k = some r := by
  unfold guardedD at h
  unfold guarded
  split at h
  · exact h
  · split at h
    · cases h
    · split at h
      · rename_i hx
        first | exact h | (split; (rename_i hy; rw [hx] at hy; cases hy; exact h); (rename_i hy; rw [hx] at hy; cases hy))
      · cases h
theorem settleK_mem {gs : List Nat} {o : Oper} {out out' : St} (h : settleK gs o out some = some out') : out'.mem = out.mem := by
  unfold settleK at h
  split at h
  · rename_i d hd
    cases hb : memB d gs with
    | false => rw [hb] at h; simp only [cond_false, Option.some.injEq] at h; subst h; rfl
    | true =>
      rw [hb] at h
      simp only [cond_true] at h
      split at h
      · rename_i x hx
        cases x <;> (simp only [cond_true, cond_false, Option.some.injEq] at h; subst h; rfl)
      · simp only [Option.some.injEq] at h; subst h; rfl
  · simp only [Option.some.injEq] at h; subst h; rfl
theorem guardedD_val {cl : Oracle} {ops : List Oper} {gs : List Nat} {o : Oper} {out : St} (hv : isVal o = true) (h : (guardedD P cl kb ops o st fun out => settleK gs o out some) = some out) : out.mem = st.mem := by
  have put : ∀ (x : V), settleK gs o (st.put o.dst x) some = some out → out.mem = st.mem := fun x hx => by
    rw [settleK_mem hx]
    cases o.dst <;> rfl
  have op : opC P cl kb o st (fun out => settleK gs o out some) = some out → out.mem = st.mem := by
    intro hk
    unfold opC at hk
    rw [hv] at hk
    simp only [cond_true] at hk
    split at hk
    · rename_i c x _
      cases c with
      | false => cases hk
      | true => exact put x hk
    · cases hk
  unfold guardedD at h
  split at h
  · exact op h
  · split at h
    · cases h
    · split at h
      · rename_i x _
        cases x with
        | true => exact op h
        | false => exact put _ h
      · cases h
theorem settleK_sound (h : Rel P N n0 B M0 w0 F e0 env st a w) {gs : List Nat} {o : Oper} {out : St} (hs : settleK gs o st some = some out) : Rel P N n0 B M0 w0 F e0 env out a w := by
  unfold settleK at hs
  split at hs
  · rename_i d hd
    cases hb : memB d gs with
    | false => rw [hb] at hs; simp only [cond_false, Option.some.injEq] at hs; subst hs; exact h
    | true =>
      rw [hb] at hs
      simp only [cond_true] at hs
      split at hs
      · rename_i x hx
        have hv : a.tmps.getD d undef = .bool x := h.tm d _ hx
        have put : Rel P N n0 B M0 w0 F e0 env { st with tmps := set st.tmps d (.c (.k x)) } a w := by
          refine h.tmps fun t' y hy => ?_
          rw [get_set] at hy
          by_cases ht : t' = d
          · rw [if_pos ht] at hy
            simp only [Option.some.injEq] at hy
            subst hy ht
            exact hv
          · rw [if_neg ht] at hy
            exact h.tm t' y hy
        cases x <;> (simp only [cond_true, cond_false, Option.some.injEq] at hs; subst hs; exact put)
      · simp only [Option.some.injEq] at hs; subst hs; exact h
  · simp only [Option.some.injEq] at hs; subst hs; exact h
theorem freshB_val {o : Oper} (hv : isVal o = true) (k : Nat) : freshB kb o k = false := by
  unfold freshB
  rw [hv]
  rfl
theorem step_sound {cl : Oracle} (hcl : OracleOk P cl) {ops : Array Oper} {gs : List Nat} {o : Oper} {rec : Rec} {K : Act → World → Prop} {Q : Exit → Act → World → Prop} (hF : ∀ k, F k → freshB kb o k = false) (h : Rel P N n0 B M0 w0 F e0 env st a w) (hn : NoW st) (hc : CleanO kb o st)
    (hd : ∀ d, o.dst = some d → d < N) (hr : RecOk P cl kb ops.toList gs o st rec) (hfull : ∀ k ob, get rec.out.mem k = some ob → fullO ob = true)
    (hK : ∀ env' a' w', Rel P N n0 B M0 w0 F e0 env' (merge kb o rec.ks st rec.out) a' w' → K a' w') :
    if Region.wanted o (yielded ops a.tmps) then o.wp P a w K Q else K (a.put o.dst undef) w := by
  have hmk : ∀ k, get (mini ops.toList o st rec.ks).mem k = if k ∈ rec.ks then get st.mem k else none := fun k => get_pickAL
  have hmt : ∀ t x, get (mini ops.toList o st rec.ks).tmps t = some x → get st.tmps t = some x := by
    intro t x hx
    unfold mini at hx
    simp only [get_pickAL] at hx
    split at hx
    · exact hx
    · cases hx
  have hmm : ∀ k ob, get (mini ops.toList o st rec.ks).mem k = some ob → get st.mem k = some ob := by
    intro k ob hg
    rw [hmk] at hg
    split at hg
    · exact hg
    · cases hg
  have hin0 := mini_rel h hn hmt hmm (fun k => freshB kb o k = false)
  have hsel : ∀ k, get (merge kb o rec.ks st rec.out).mem k = if selB kb o rec.ks k = true then get rec.out.mem k else get st.mem k := by
    intro k
    cases hv : isVal o with
    | false => exact get_merge_mem hv
    | true =>
      rw [merge_mem_val hv, guardedD_val hv hr.out, hmk]
      unfold selB
      rw [freshB_val hv, Bool.or_false]
      by_cases hk : k ∈ rec.ks
      · rw [if_pos (memB_iff.2 hk), if_pos hk]
      · rw [if_neg (fun hb => hk (memB_iff.1 hb))]
  have hg := guarded_sound (Q := Q) hcl (F := fun k => freshB kb o k = false) (fun k h1 h2 => by rw [h1] at h2; cases h2) hin0 hd (guardedD_guarded hr.out)
  have fin : ∀ a' w', After P N w.heap.size (Sof P B M0 n0 env st.mem w) (Mut0 P env (mini ops.toList o st rec.ks).mem) w (fun k => freshB kb o k = false) env (fun out => settleK gs o out some) rec.out a' w' →
      (∀ t, o.dst ≠ some t → a'.tmps.getD t undef = a.tmps.getD t undef) → K a' w' := by
    rintro a' w' ⟨env', st', h1, h2⟩ ha
    exact hK env' a' w' (frame h hn hc hF hsel hmk (settleK_sound h1 h2) hfull ha)
  split
  · rename_i hw
    rw [if_pos hw] at hg
    exact Oper.wp_mono (fun a' w' hp => fin a' w' hp.1 hp.2) (wp_slots hg)
  · rename_i hw
    rw [if_neg hw] at hg
    refine fin _ _ hg fun t ht => ?_
    cases hdd : o.dst with
    | none => rfl
    | some d => rw [getD_put_ne (fun e => ht (by rw [hdd, e]))]
end
end Go.AM
