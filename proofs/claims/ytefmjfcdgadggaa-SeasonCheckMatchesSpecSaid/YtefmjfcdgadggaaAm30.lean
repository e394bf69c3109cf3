/- The abstract machine: what an operation does on what it leans on, laid over the rest. -/
import Derived.Test.YtefmjfcdgadggaaAm28
set_option linter.all false
namespace Go.AM
open Go

/-! ### What is found -/
theorem get_pickAL {α : Type} {l : AL α} {k : Nat} : ∀ {ks : List Nat}, get (pickAL l ks) k = if k ∈ ks then get l k else none
  | [] => by simp [pickAL, get]
  | j :: r => by
    have ih := get_pickAL (l := l) (k := k) (ks := r)
    simp only [pickAL]
    split
    · rename_i x hx
      simp only [get, beq_eq', ih]
      by_cases hj : j = k
      · subst hj; simp [hx]
      · rw [cond_false (by simpa using hj)]; simp [Ne.symm hj]
    · rename_i hx
      rw [ih]
      by_cases hj : k = j
      · subst hj; simp [hx]
      · simp [hj]
theorem get_keep' {α : Type} (p : Nat → Bool) (n : Nat) : ∀ (l : AL α), get (keep p l) n = if p n = true then get l n else none
  | [] => by simp [keep, get]
  | (k, v) :: r => by
    have ih := get_keep' p n r
    simp only [keep]
    cases hp : p k with
    | true =>
      simp only [cond_true, get, beq_eq', ih]
      by_cases hk : k = n
      · subst hk; simp [hp]
      · rw [cond_false (by simpa using hk), cond_false (by simpa using hk)]
    | false =>
      simp only [cond_false, ih, get, beq_eq']
      by_cases hk : k = n
      · subst hk; simp [hp]
      · rw [cond_false (by simpa using hk)]
theorem get_putSel {sel : Nat → Bool} {mem : AL Obj} {k : Nat} : ∀ {l : AL Obj}, get (putSel sel l mem) k = if sel k = true then (match get l k with | some x => some x | none => get mem k) else get mem k
  | [] => by simp [putSel, get]
  | (j, o) :: r => by
    have ih := get_putSel (sel := sel) (mem := mem) (k := k) (l := r)
    simp only [putSel]
    cases hs : sel j with
    | true =>
      simp only [cond_true, get_set, get, beq_eq']
      by_cases hj : k = j
      · subst hj; simp [hs]
      · rw [if_neg hj, ih, cond_false (by simpa using Ne.symm hj)]
    | false =>
      simp only [cond_false, ih, get, beq_eq']
      by_cases hj : k = j
      · subst hj; simp [hs]
      · rw [cond_false (by simpa using Ne.symm hj)]
theorem get_putOpt {l : AL V} {d t : Nat} {x : Option V} : get (putOpt l d x) t = if t = d then x.map untag else get l t := by
  cases x with
  | none => simp [putOpt, get_del]
  | some x => simp [putOpt, get_set]
theorem get_merge_tmps {kb : Nat} {o : Oper} {ks : List Nat} {st out : St} {t : Nat} : get (merge kb o ks st out).tmps t = if o.dst = some t then (get out.tmps t).map untag else get st.tmps t := by
  unfold merge
  cases hd : o.dst with
  | none => simp
  | some d =>
    simp only [get_putOpt, Option.some.injEq]
    by_cases h : t = d
    · subst h; simp
    · rw [if_neg h, if_neg (Ne.symm h)]
theorem get_merge_mem {kb : Nat} {o : Oper} {ks : List Nat} {st out : St} {k : Nat} (hv : isVal o = false) : get (merge kb o ks st out).mem k = if selB kb o ks k = true then get out.mem k else get st.mem k := by
  unfold merge
  simp only [hv, cond_false, get_putSel, get_keep']
  cases selB kb o ks k with
  | true => cases get out.mem k <;> simp
  | false => simp
theorem merge_mem_val {kb : Nat} {o : Oper} {ks : List Nat} {st out : St} (hv : isVal o = true) : (merge kb o ks st out).mem = st.mem := by
  unfold merge
  simp only [hv, cond_true]

/-! ### Names -/
def NoW (st : St) : Prop := ∀ t x, get st.tmps t = some x → ∀ s b y, x ≠ .w s b y
def CleanO (kb : Nat) (o : Oper) (st : St) : Prop :=
  (∀ t x, get st.tmps t = some x → ∀ k ∈ keysAll x, freshB kb o k = false) ∧ ∀ k ob, get st.mem k = some ob → freshB kb o k = false ∧ ∀ k' ∈ keysOfO ob, freshB kb o k' = false
theorem keysC_eq (c : C) : keysC c = keysOf c := by cases c <;> rfl
section
variable {P : Program} {env env' : Env} {S S' : Stab} {w w' : World}
theorem VRel1.monoK (h : Keeps w S w' S') {x : V} {v : Value} (hk : ∀ k ∈ keysAll1 x, env' k = env k) (hr : VRel1 P env S w x v) : VRel1 P env' S' w' x v := by
  cases x with
  | c x => exact CRel.mono h (fun k hk' => hk k (by rw [keysC_eq] at hk'; exact hk')) hr
  | g xs =>
    obtain ⟨vs, h1, h2⟩ := hr
    refine ⟨vs, h1, h2.mono fun x y hx => CRel.mono h fun k hk' => hk k ?_⟩
    rw [keysC_eq] at hk'
    exact List.mem_flatMap.2 ⟨x, hx, hk'⟩
  | _ => exact hr.elim
theorem VRel.monoK (h : Keeps w S w' S') {x : V} {v : Value} (hk : ∀ k ∈ keysAll x, env' k = env k) (hr : VRel P env S w x v) : VRel P env' S' w' x v := by
  cases x with
  | c x => exact CRel.mono h (fun k hk' => hk k (by rw [keysC_eq] at hk'; exact hk')) hr
  | g xs =>
    obtain ⟨vs, h1, h2⟩ := hr
    refine ⟨vs, h1, h2.mono fun x y hx => CRel.mono h fun k hk' => hk k ?_⟩
    rw [keysC_eq] at hk'
    exact List.mem_flatMap.2 ⟨x, hx, hk'⟩
  | t xs =>
    obtain ⟨vs, h1, h2⟩ := hr
    exact ⟨vs, h1, h2.mono fun x y hx => VRel1.monoK h fun k hk' => hk k (List.mem_flatMap.2 ⟨x, hx, hk'⟩)⟩
  | w _ _ _ => exact hr.elim
theorem VRelA.untagged {a : Act} {x : V} {v : Value} (hn : ∀ s b y, x ≠ .w s b y) (hr : VRelA P env S w a x v) : VRel P env S w x v := by
  cases x with
  | w s b y => exact absurd rfl (hn s b y)
  | _ => exact hr
theorem obj_monoK (h : Keeps w S w' S') {s : Slot} {o : Obj} (hk : ∀ k ∈ keysOfO o, env' k = env k) (hh : realO o → w'.heap[s.blk]? = w.heap[s.blk]?) (hr : ObjRel P env S w s o) : ObjRel P env' S' w' s o := by
  cases o with
  | box cs =>
    obtain ⟨cur, T, h1, h2, h3⟩ := hr
    refine ⟨cur, T, by rw [hh trivial]; exact h1, h2, h3.mono fun x y hx hxy => CRel.mono h (fun k hk' => hk k ?_) hxy⟩
    rw [keysC_eq] at hk'
    exact List.mem_flatMap.2 ⟨x, hx, hk'⟩
  | row e ex nl xs => exact row_mono h hh hr ex
  | map kt vt es => exact map_mono h (hh trivial) hr
theorem obj_env (h : Keeps w S w' S') {s : Slot} {o : Obj} (hk : ∀ k ∈ keysOfO o, env' k = env k) (hr : ObjRel P env S w s o) (hw : w' = w) : ObjRel P env' S' w' s o := by
  subst hw
  exact obj_monoK h hk (fun _ => rfl) hr
end

/-! ### The frame -/
section
variable {P : Program} {N n0 kb : Nat} {F : Nat → Prop} {B M0 : Stab} {w0 : World} {e0 env : Env} {st : St} {a : Act} {w : World}
/-- What holds inside: the part that is leaned on, as a state of its own. -/
theorem mini_rel (h : Rel P N n0 B M0 w0 F e0 env st a w) (hn : NoW st) {m : St} (ht : ∀ t x, get m.tmps t = some x → get st.tmps t = some x) (hm : ∀ k ob, get m.mem k = some ob → get st.mem k = some ob) (F' : Nat → Prop) :
    Rel P N w.heap.size (Sof P B M0 n0 env st.mem w) (Mut0 P env m.mem) w F' env env m a w := by
  have hk : Keeps w (Sof P B M0 n0 env st.mem w) w (Sof P (Sof P B M0 n0 env st.mem w) (Mut0 P env m.mem) w.heap.size env m.mem w) := fun b o v hS hv =>
    ⟨⟨.inl hS, hS.2.1, fun key ob hg hmu => hS.2.2 key ob (hm key ob hg) hmu⟩, hv⟩
  refine ⟨h.size, h.dfr, rfl, fun t x hx => VRelA.of (VRel.mono hk (fun _ => rfl) (VRelA.untagged (hn t x (ht t x hx)) (h.tm t x (ht t x hx)))), fun key o hg => obj_same hk (fun _ => rfl) (h.ob key o (hm key o hg)),
    fun k k' o o' hg hg' => h.ds k k' o o' (hm _ _ hg) (hm _ _ hg'), fun key o b x hg hmu => .inl ⟨key, o, hg, hmu⟩, ?_, Chg.refl _ w, fun b o hS => hS.2.1, fun _ _ => rfl⟩
  intro key e ex xs hg o ho
  cases ex with
  | false => exact .inl (h.rows key e xs (hm _ _ hg) o ho)
  | true => exact .inr (.inr ⟨_, _, hg, rfl, rfl, .inl rfl⟩)
theorem sof_back {m : AL Obj} {b o : Nat} (h : Sof P (Sof P B M0 n0 env st.mem w) (Mut0 P env m) w.heap.size env m w b o) : Sof P B M0 n0 env st.mem w b o := by
  obtain ⟨h1, h2, h3⟩ := h
  rcases h1 with h1 | h1 | ⟨k, ob, g, q⟩
  · exact h1
  · omega
  · exact absurd q (h3 k ob g)
theorem frame (h : Rel P N n0 B M0 w0 F e0 env st a w) (hn : NoW st) {o : Oper} {ks : List Nat} (hc : CleanO kb o st) (hF : ∀ k, F k → freshB kb o k = false) {m out : St} (hmm : ∀ k, get (merge kb o ks st out).mem k = if selB kb o ks k = true then get out.mem k else get st.mem k)
    (hm : ∀ k, get m.mem k = if k ∈ ks then get st.mem k else none) {env' : Env} {a' : Act} {w' : World}
    (hin : Rel P N w.heap.size (Sof P B M0 n0 env st.mem w) (Mut0 P env m.mem) w (fun k => freshB kb o k = false) env env' out a' w')
    (hfull : ∀ k ob, get out.mem k = some ob → fullO ob = true) (ha : ∀ t, o.dst ≠ some t → a'.tmps.getD t undef = a.tmps.getD t undef) :
    Rel P N n0 B M0 w0 F e0 env' (merge kb o ks st out) a' w' := by
  have hsub : ∀ k ob, get m.mem k = some ob → get st.mem k = some ob ∧ k ∈ ks := by
    intro k ob hg
    rw [hm] at hg
    by_cases hk : k ∈ ks
    · rw [if_pos hk] at hg; exact ⟨hg, hk⟩
    · rw [if_neg hk] at hg; cases hg
  have hMtS : ∀ b x, Mut0 P env m.mem b x → ∃ k ob, k ∈ ks ∧ get st.mem k = some ob ∧ MutO P (env k) ob b x := fun b x ⟨k, ob, g, q⟩ => ⟨k, ob, (hsub k ob g).2, (hsub k ob g).1, q⟩
  have hget : ∀ k ob, get (merge kb o ks st out).mem k = some ob → (selB kb o ks k = true ∧ get out.mem k = some ob) ∨ (selB kb o ks k = false ∧ k ∉ ks ∧ freshB kb o k = false ∧ env' k = env k ∧ get st.mem k = some ob) := by
    intro k ob hg
    rw [hmm] at hg
    cases hs : selB kb o ks k with
    | true => rw [hs] at hg; exact .inl ⟨rfl, by simpa using hg⟩
    | false =>
      rw [hs] at hg
      have hs' := hs
      unfold selB at hs'
      simp only [Bool.or_eq_false_iff] at hs'
      refine .inr ⟨rfl, fun hk => ?_, hs'.2, hin.fx k hs'.2, by simpa using hg⟩
      rw [memB_iff.2 hk] at hs'
      cases hs'.1
  -- a block that is not leaned on stays
  have hno : ∀ k ob, k ∉ ks → get st.mem k = some ob → realO ob → ∀ x, ¬ Mut0 P env m.mem (env k).blk x := by
    intro k ob hk hg hr x hmu
    obtain ⟨k', ob', h1, h2, h3⟩ := hMtS _ _ hmu
    obtain ⟨h4, h5⟩ := mutO_real h3
    exact h.ds k k' ob ob' hg h2 hr h4 (fun e => hk (e ▸ h1)) h5
  have hsame : ∀ k ob, k ∉ ks → get st.mem k = some ob → realO ob → w'.heap[(env k).blk]? = w.heap[(env k).blk]? := fun k ob hk hg hr => chg_block hin.ch (obj_lt (h.ob _ _ hg) hr) (hno k ob hk hg hr)
  -- where the objects that came back lie
  have hreal : ∀ k ob, get out.mem k = some ob → realO ob → w.heap.size ≤ (env' k).blk ∨ ∃ k' ob', k' ∈ ks ∧ get st.mem k' = some ob' ∧ realO ob' ∧ (env k').blk = (env' k).blk := by
    intro k ob hg hr
    obtain ⟨x, hx⟩ := mutO_ex (P := P) (s := env' k) hr (hfull k ob hg)
    rcases hin.mu k ob _ x hg hx with hmu | h1
    · obtain ⟨k', ob', h1, h2, h3⟩ := hMtS _ _ hmu
      obtain ⟨h4, h5⟩ := mutO_real h3
      exact .inr ⟨k', ob', h1, h2, h4, h5.symm⟩
    · exact .inl h1
  have hS1 : Keeps w' (Sof P (Sof P B M0 n0 env st.mem w) (Mut0 P env m.mem) w.heap.size env' out.mem w') w' (Sof P B M0 n0 env' (merge kb o ks st out).mem w') := by
    intro b x u hS hcell
    refine ⟨⟨?_, hS.2.1, ?_⟩, hcell⟩
    · rcases hS.1 with h1 | h1 | h1
      · exact h1.1
      · exact .inr (.inl (Nat.le_trans h.n0le h1))
      · obtain ⟨k, ob, _, h2, h3⟩ := hMtS _ _ h1
        rcases h.mu _ _ _ _ h2 h3 with h4 | h4
        · exact .inr (.inr h4)
        · exact .inr (.inl h4)
    · intro key ob hg hmu
      rcases hget key ob hg with ⟨_, h2⟩ | ⟨_, h2, _, h3, h4⟩
      · exact hS.2.2 key ob h2 hmu
      · rw [h3] at hmu
        obtain ⟨r1, r2⟩ := mutO_real hmu
        rcases hS.1 with q | q | q
        · exact q.2.2 key ob h4 hmu
        · have := obj_lt (h.ob _ _ h4) r1
          omega
        · rw [r2] at q
          exact hno key ob h2 h4 r1 x q
  have hkeys : ∀ k, freshB kb o k = false → env' k = env k := fun k hk => hin.fx k hk
  obtain ⟨tm0, hst⟩ : ∃ t, t = st := ⟨st, rfl⟩
  have hmu' : ∀ k ob b x, get (merge kb o ks st out).mem k = some ob → MutO P (env' k) ob b x → w.heap.size ≤ b ∨ ∃ k' ob', get st.mem k' = some ob' ∧ MutO P (env k') ob' b x := by
    intro k ob b x hg hmu
    rcases hget k ob hg with ⟨_, h2⟩ | ⟨_, _, _, h3, h4⟩
    · rcases hin.mu k ob b x h2 hmu with q | q
      · obtain ⟨k', ob', _, q2, q3⟩ := hMtS _ _ q
        exact .inr ⟨k', ob', q2, q3⟩
      · exact .inl q
    · rw [h3] at hmu
      exact .inr ⟨k, ob, h4, hmu⟩
  have hkeep := keeps_of (B := B) (M0 := M0) (n0 := n0) (mem' := (merge kb o ks st out).mem) (env' := env') hin.ch (fun b x hx => let ⟨k, ob, _, q2, q3⟩ := hMtS b x hx; ⟨k, ob, q2, q3⟩) hmu'
  refine ⟨hin.size, hin.dfr, h.hn0, ?_, ?_, ?_, ?_, ?_, ?_, h.bb, ?_⟩
  · intro t x hx
    rw [get_merge_tmps] at hx
    by_cases hd : o.dst = some t
    · rw [if_pos hd] at hx
      cases hg : get out.tmps t with
      | none => rw [hg] at hx; cases hx
      | some y =>
        rw [hg] at hx
        simp only [Option.map_some, Option.some.injEq] at hx
        subst hx
        exact VRelA.of (VRel.mono hS1 (fun _ => rfl) (vrelA_untag (hin.tm t y hg)))
    · rw [if_neg hd] at hx
      rw [ha t hd]
      exact VRelA.of (VRel.monoK hkeep (fun k hk => hkeys k (hc.1 t x hx k hk)) (VRelA.untagged (hn t x hx) (h.tm t x hx)))
  · intro key ob hg
    rcases hget key ob hg with ⟨_, h2⟩ | ⟨_, h2, _, h3, h4⟩
    · exact obj_same hS1 (fun _ => rfl) (hin.ob key ob h2)
    · rw [h3]
      exact obj_monoK hkeep (fun k hk => hkeys k ((hc.2 key ob h4).2 k hk)) (hsame key ob h2 h4) (h.ob key ob h4)
  · intro k1 k2 o1 o2 hg1 hg2 hr1 hr2 hne heq
    have cross : ∀ k k' ob ob', get out.mem k = some ob → realO ob → k' ∉ ks → env' k' = env k' → get st.mem k' = some ob' → realO ob' → (env' k).blk ≠ (env' k').blk := by
      intro k k' ob ob' g r hk' he' g' r' hb
      have hlt := obj_lt (h.ob _ _ g') r'
      rw [he'] at hb
      rcases hreal k ob g r with q | ⟨k'', ob'', q1, q2, q3, q4⟩
      · omega
      · exact h.ds k'' k' ob'' ob' q2 g' q3 r' (fun e => hk' (e ▸ q1)) (q4.trans hb)
    rcases hget k1 o1 hg1 with ⟨_, h2⟩ | ⟨_, h2, _, h3, h4⟩ <;> rcases hget k2 o2 hg2 with ⟨_, p2⟩ | ⟨_, p2, _, p3, p4⟩
    · exact hin.ds k1 k2 o1 o2 h2 p2 hr1 hr2 hne heq
    · exact cross k1 k2 o1 o2 h2 hr1 p2 p3 p4 hr2 heq
    · exact cross k2 k1 o2 o1 p2 hr2 h2 h3 h4 hr1 heq.symm
    · rw [h3, p3] at heq
      exact h.ds k1 k2 o1 o2 h4 p4 hr1 hr2 hne heq
  · intro k ob b x hg hmu
    rcases hmu' k ob b x hg hmu with q | ⟨k', ob', q1, q2⟩
    · exact .inr (Nat.le_trans h.n0le q)
    · exact h.mu k' ob' b x q1 q2
  · intro key e ex xs hg x hx
    rcases hget key _ hg with ⟨_, h2⟩ | ⟨_, h2, _, h3, h4⟩
    · rcases hin.pr key e ex xs h2 x hx with q | q | q
      · exact q.1
      · exact .inr (.inl (Nat.le_trans h.n0le q))
      · obtain ⟨k', ob', _, q2, q3⟩ := hMtS _ _ q
        rcases h.mu _ _ _ _ q2 q3 with q4 | q4
        · exact .inr (.inr q4)
        · exact .inr (.inl q4)
    · rw [h3]
      exact h.pr key e ex xs h4 x hx
  · refine Chg.trans h.ch hin.ch fun b x hx => ?_
    obtain ⟨k', ob', _, q2, q3⟩ := hMtS _ _ hx
    rw [← h.hn0]
    exact h.mu _ _ _ _ q2 q3
  · intro k hk
    exact (hkeys k (hF k hk)).trans (h.fx k hk)
/-- Where an operation's value goes, and that nothing else of the slots turns. -/
theorem wp_slots {o : Oper} {K : Act → World → Prop} {Q : Exit → Act → World → Prop} (h : o.wp P a w K Q) : o.wp P a w (fun a' w' => K a' w' ∧ ∀ t, o.dst ≠ some t → a'.tmps.getD t undef = a.tmps.getD t undef) Q := by
  have hput : ∀ (a1 : Act) v, a1.tmps = a.tmps → ∀ t, o.dst ≠ some t → (a1.put o.dst v).tmps.getD t undef = a.tmps.getD t undef := by
    intro a1 v he t ht
    cases hd : o.dst with
    | none => simp only [Act.put]; rw [he]
    | some d => rw [getD_put_ne (fun e => ht (by rw [hd, e])), he]
  unfold Oper.wp at h ⊢
  generalize (execOp a.eval o).run P w = r at h ⊢
  cases r with
  | ok n w' =>
    cases n <;> simp only [Oper.upon] at h ⊢ <;>
      first
        | exact ⟨h, hput _ _ rfl⟩
        | exact Calls.mono h (fun e w'' he => by cases e <;> first | exact ⟨he, hput _ _ rfl⟩ | exact he)
        | exact Rows.mono h (fun _ _ he => ⟨he, hput _ _ rfl⟩)
        | exact h
  | halt x w' => cases x <;> simp only [Oper.upon] at h ⊢ <;> exact h
end
end Go.AM
