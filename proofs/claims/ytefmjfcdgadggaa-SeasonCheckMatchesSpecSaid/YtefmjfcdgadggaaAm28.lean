/- The abstract machine: code. -/
import Derived.Test.YtefmjfcdgadggaaAm27
import Derived.Deep.LoopGhost
set_option linter.all false
namespace Go.AM
open Go

section
variable {P : Program} {N n0 kb : Nat} {F : Nat → Prop} {B M0 : Stab} {w0 : World} {e0 env : Env} {st : St} {a : Act} {w : World}
/-- Fewer facts. -/
theorem Rel.weaken (h : Rel P N n0 B M0 w0 F e0 env st a w) {tmps : AL V} {mem : AL Obj} (ht : ∀ t x, get tmps t = some x → get st.tmps t = some x) (hm : ∀ t x, get mem t = some x → get st.mem t = some x) :
    Rel P N n0 B M0 w0 F e0 env { tmps, mem } a w := by
  have hk : Keeps w (Sof P B M0 n0 env st.mem w) w (Sof P B M0 n0 env mem w) := fun b o v hS hv => ⟨⟨hS.1, hS.2.1, fun key ob hg hmu => hS.2.2 key ob (hm key ob hg) hmu⟩, hv⟩
  exact ⟨h.size, h.dfr, h.hn0, fun t x hx => VRelA.mono hk (fun _ => rfl) (h.tm t x (ht t x hx)), fun key o hg => obj_same hk (fun _ => rfl) (h.ob key o (hm key o hg)),
    fun k k' o o' hg hg' => h.ds k k' o o' (hm _ _ hg) (hm _ _ hg'), fun key o b x hg => h.mu key o b x (hm _ _ hg), fun key e ex xs hg => h.pr key e ex xs (hm _ _ hg), h.ch, h.bb, h.fx⟩
theorem trim_sound (h : Rel P N n0 B M0 w0 F e0 env st a w) (hs : Hint) (id : Nat) : Rel P N n0 B M0 w0 F e0 env (trim hs id st) a w := by
  unfold trim
  split
  · exact h
  · exact h.weaken (fun t x hx => get_keep _ _ _ _ hx) (fun t x hx => hx)
theorem unkC_rel {S : Stab} {c : C} {v : Value} (h : CRel P env S w c v) : CRel P env S w (unkC c) v := by cases c <;> exact h
theorem unkV_rel {S : Stab} {x : V} {v : Value} (h : VRelA P env S w a x v) : VRelA P env S w a (unkV x) v := by
  cases x with
  | c c => exact unkC_rel h
  | g xs => obtain ⟨vs, h1, h2⟩ := h; exact ⟨vs, h1, h2.mapl fun c u _ hcu => unkC_rel hcu⟩
  | t xs => exact h
  | w s b x => exact h
theorem mutO_unk {s : Slot} {o : Obj} {b x : Nat} : MutO P s (unkO o) b x ↔ MutO P s o b x := by
  cases o <;> simp [unkO, MutO]
theorem realO_unk {o : Obj} : realO (unkO o) ↔ realO o := by cases o <;> simp [unkO, realO]
theorem cutSt_sound (h : Rel P N n0 B M0 w0 F e0 env st a w) (ts ks : List Nat) : Rel P N n0 B M0 w0 F e0 env (cutSt ts ks st) a w := by
  have hg : ∀ {k ob}, get (cutSt ts ks st).mem k = some ob → ∃ ob0, get st.mem k = some ob0 ∧ ob = unkO ob0 := by
    intro k ob hk
    unfold cutSt at hk
    simp only [get_mapV] at hk
    cases h1 : get (keep (fun t => memB t ks) st.mem) k with
    | none => rw [h1] at hk; cases hk
    | some ob0 => rw [h1] at hk; simp only [Option.map_some, Option.some.injEq] at hk; exact ⟨ob0, get_keep _ _ _ _ h1, hk.symm⟩
  have hk : Keeps w (Sof P B M0 n0 env st.mem w) w (Sof P B M0 n0 env (cutSt ts ks st).mem w) := fun b o v hS hv => ⟨⟨hS.1, hS.2.1, fun key ob hgk hmu => by
    obtain ⟨ob0, h1, rfl⟩ := hg hgk
    exact hS.2.2 key ob0 h1 (mutO_unk.1 hmu)⟩, hv⟩
  refine ⟨h.size, h.dfr, h.hn0, ?_, ?_, ?_, ?_, ?_, h.ch, h.bb, h.fx⟩
  · intro t x hx
    unfold cutSt at hx
    simp only [get_mapV] at hx
    cases h1 : get (keep (fun t => memB t ts) st.tmps) t with
    | none => rw [h1] at hx; cases hx
    | some y =>
      rw [h1] at hx
      simp only [Option.map_some, Option.some.injEq] at hx
      subst hx
      exact unkV_rel (VRelA.mono hk (fun _ => rfl) (h.tm t y (get_keep _ _ _ _ h1)))
  · intro key ob hgk
    obtain ⟨ob0, h1, rfl⟩ := hg hgk
    have := obj_same (w' := w) hk (fun _ => rfl) (h.ob key ob0 h1)
    cases ob0 with
    | box cs =>
      obtain ⟨cur, T, c1, c2, c3⟩ := this
      refine ⟨cur, T, c1, by simpa using c2, ?_⟩
      simp only [List.length_map]
      exact c3.mapl fun c u _ hcu => unkC_rel hcu
    | _ => exact this
  · intro k k' o o' hgk hgk' hr hr' hne
    obtain ⟨ob0, h1, rfl⟩ := hg hgk
    obtain ⟨ob0', h1', rfl⟩ := hg hgk'
    exact h.ds k k' ob0 ob0' h1 h1' (realO_unk.1 hr) (realO_unk.1 hr') hne
  · intro key o b x hgk hmu
    obtain ⟨ob0, h1, rfl⟩ := hg hgk
    exact h.mu key ob0 b x h1 (mutO_unk.1 hmu)
  · intro key e ex xs hgk
    obtain ⟨ob0, h1, h2⟩ := hg hgk
    cases ob0 with
    | row e' ex' nl' xs' =>
      simp only [unkO, Obj.row.injEq] at h2
      obtain ⟨rfl, rfl, rfl, rfl⟩ := h2
      exact h.pr key e ex xs h1
    | box cs => cases h2
    | map kt vt es => cases h2
theorem rel_move (h : Rel P N n0 B M0 w0 F e0 env st a w) {key key0 : Nat} {e : TypeId} {ex nl : Bool} {xs : List D} (hg : get st.mem key0 = some (.row e ex nl xs)) (hkey : ¬ F key) :
    Rel P N n0 B M0 w0 F e0 (upd env key (env key0)) (fresh key (.row e ex nl xs) { st with mem := del st.mem key0 }) a w := by
  have hsub : ∀ k ob, get (del st.mem key0) k = some ob → get st.mem k = some ob := fun k ob hk => (get_del_sub k ob hk).2
  refine Rel.new h hsub key hkey _ _ (fun _ _ => False) (Chg.refl _ w) (fun _ _ hf => hf.elim) (fun _ _ _ _ _ => rfl) ?_ ?_ ?_ ?_
  · intro hk
    exact row_mono (w' := w) hk (fun _ => rfl) (h.ob _ _ hg) ex
  · intro b x hm
    exact .inr ⟨key0, _, hg, hm⟩
  · intro hr k ob _ hk hrk
    obtain ⟨h1, h2⟩ := get_del_sub k ob hk
    exact h.ds k key0 ob _ h2 hg hrk hr h1
  · intro e' ex' xs' he x hx
    simp only [Obj.row.injEq] at he
    obtain ⟨rfl, rfl, rfl, rfl⟩ := he
    exact h.pr key0 _ _ _ hg x hx
theorem ownSlot_sound (h : Rel P N n0 B M0 w0 F e0 env st a w) (hF : ∀ k, F k → k < kb) (t : Nat) : ∃ env', Rel P N n0 B M0 w0 F e0 env' (ownSlot P kb t st) a w := by
  have hkey : ¬ F (kb + t) := fun hf => by have := hF _ hf; omega
  have put : ∀ {env' : Env} {st' : St} {c : C}, Rel P N n0 B M0 w0 F e0 env' st' a w → CRel P env' (Sof P B M0 n0 env' st'.mem w) w c (a.tmps.getD t undef) → Rel P N n0 B M0 w0 F e0 env' { st' with tmps := set st'.tmps t (.c c) } a w := by
    intro env' st' c h' hc
    refine h'.tmps fun t' y hy => ?_
    rw [get_set] at hy
    by_cases ht : t' = t
    · rw [if_pos ht] at hy
      simp only [Option.some.injEq] at hy
      subst hy ht
      exact hc
    · rw [if_neg ht] at hy
      exact h'.tm t' y hy
  unfold ownSlot
  split
  · rename_i key hx
    have hv : a.tmps.getD t undef = (env key).hdr := h.tm t _ hx
    split
    · rename_i e ex nl xs hg
      cases Nat.beq key (kb + t) with
      | true => exact ⟨env, h⟩
      | false => exact ⟨_, put (rel_move h hg hkey) (show _ = _ by rw [hv]; simp [upd])⟩
    · exact ⟨env, h⟩
  · rename_i e hx
    have hv : RepD P w (Sof P B M0 n0 env st.mem w) (.sl e) (.l true []) (a.tmps.getD t undef) := h.tm t _ hx
    cases hb : Nat.beq (sizeB P e) (kinds P e).length with
    | false => exact ⟨env, h⟩
    | true =>
      have hr := rel_nilRow h (mem0 := st.mem) (fun _ _ hg => hg) (kb + t) hkey (ex := true) (Nat.eq_of_beq_eq_true hb)
      refine ⟨_, put hr (show _ = _ from ?_)⟩
      have hnil : a.tmps.getD t undef = .slice none 0 0 := repD_nil hv rfl ⟨_, rfl⟩
      rw [hnil]
      simp [upd, Slot.hdr]
  · exact ⟨env, h⟩
theorem ownSlots_sound (hF : ∀ k, F k → k < kb) : ∀ (ts : List Nat) {env : Env} {st : St}, Rel P N n0 B M0 w0 F e0 env st a w → ∃ env', Rel P N n0 B M0 w0 F e0 env' (ownSlots P kb ts st) a w
  | [], env, st, h => ⟨env, h⟩
  | t :: r, env, st, h => let ⟨_, h1⟩ := ownSlot_sound h hF t; ownSlots_sound hF r h1
theorem clearSt_sound (h : Rel P N n0 B M0 w0 F e0 env st a w) (hF : ∀ k, F k → k < kb) (hs : Hints) (id : Nat) : ∃ env', Rel P N n0 B M0 w0 F e0 env' (clearSt P kb hs id st) a w := by
  unfold clearSt
  split
  · exact ⟨env, h⟩
  · obtain ⟨env', h1⟩ := ownSlots_sound hF _ h
    exact ⟨env', cutSt_sound h1 _ _⟩
/-- What is asked of the code's ends. -/
def PostX {R : Type} (P : Program) (N n0 : Nat) (B M0 : Stab) (w0 : World) (F : Nat → Prop) (e0 : Env) (k : Ex → St → Option R) (r : R) : Exit → Act → World → Prop
  | .normal, a, w => After P N n0 B M0 w0 F e0 (k .normal) r a w
  | .exit i, a, w => After P N n0 B M0 w0 F e0 (k (.exit i)) r a w
  | .ret, a, w => After P N n0 B M0 w0 F e0 (k .ret) r a w
  | _, _, _ => False
/-- The pieces of a code of which something can be known. -/
def cutsOf : Code → List Code
  | .seq a b => cutsOf a ++ cutsOf b
  | .cond c a b => .cond c a b :: (cutsOf a ++ cutsOf b)
  | .block _ b => cutsOf b
  | .loop b => .loop b :: cutsOf b
  | .region id ops d => [.region id ops d]
  | _ => []
/-- Every slot that the code writes is there. -/
def okC (N : Nat) : Code → Bool
  | .region _ ops _ => ops.toList.all fun o => match o.dst with | some d => Nat.blt d N | none => true
  | .seq a b => okC N a && okC N b
  | .cond _ a b => okC N a && okC N b
  | .block _ b => okC N b
  | .loop b => okC N b
  | _ => true
theorem okC_ops {N : Nat} {ops : List Oper} (h : (ops.all fun o => match o.dst with | some d => Nat.blt d N | none => true) = true) : ∀ o ∈ ops, ∀ d, o.dst = some d → d < N := by
  intro o ho d hd
  rw [List.all_eq_true] at h
  have := h o ho
  rw [hd] at this
  exact Nat.le_of_ble_eq_true this
def DrawSound (P : Program) (cl : Oracle) : Prop := ∀ {R : Type} {N n0 kb : Nat} {F : Nat → Prop} {B M0 : Stab} {w0 : World} {e0 env : Env} {st : St} {a : Act} {w : World} {id : Nat} {ops : Array Oper} {k : St → Option R} {r : R} {Q : Exit → Act → World → Prop}, (∀ k, F k → k < kb) →
  Rel P N n0 B M0 w0 F e0 env st a w → (∀ o ∈ ops.toList, ∀ d, o.dst = some d → d < N) → drawOps P cl kb ops.toList st k = some r → (∀ a w, After P N n0 B M0 w0 F e0 k r a w → Q .normal a w) → (Code.region id ops true).wp P Q a w
/-- What is laid down of a piece of code is so. -/
def CutLaw (P : Program) (kb : Nat) (b : Code) (f : St → Option (List (Bool × (Ex × St)))) : Prop := ∀ st alts, f st = some alts → ∀ x, altK alts some = some x →
  ∀ {N n0 : Nat} {F : Nat → Prop} {B M0 : Stab} {w0 : World} {e0 env : Env} {a : Act} {w : World}, (∀ k, F k → k < kb) → okC N b = true → Rel P N n0 B M0 w0 F e0 env st a w →
    b.wp P (PostX P N n0 B M0 w0 F e0 (fun e st => some (e, st)) x) a w
def CutOk (P : Program) (hs : Hint) (kb : Nat) (b : Code) : Prop := ∀ id f, lawOf hs b = some (id, f) → CutLaw P kb b f
theorem postX_of {R : Type} {k : Ex → St → Option R} {r : R} {x : Ex × St} (hk : k x.1 x.2 = some r) {e : Exit} (h : PostX P N n0 B M0 w0 F e0 (fun e st => some (e, st)) x e a w) : PostX P N n0 B M0 w0 F e0 k r e a w := by
  cases e with
  | normal => obtain ⟨env', st', h1, h2⟩ := h; cases h2; exact ⟨env', st', h1, hk⟩
  | exit i => obtain ⟨env', st', h1, h2⟩ := h; cases h2; exact ⟨env', st', h1, hk⟩
  | ret => obtain ⟨env', st', h1, h2⟩ := h; cases h2; exact ⟨env', st', h1, hk⟩
  | _ => exact h.elim
theorem exec_sound {R : Type} {cl : Oracle} {hs : Hint} (hcl : OracleOk P cl) (hdr : DrawSound P cl) (hF : ∀ k, F k → k < kb) : ∀ (n : Nat) {c : Code} {k : Ex → St → Option R} {r : R} {env : Env} {st : St} {a : Act} {w : World}, okC N c = true → (∀ b ∈ cutsOf c, CutOk P hs kb b) →
    Rel P N n0 B M0 w0 F e0 env st a w → exec P cl hs kb n c st k = some r → c.wp P (PostX P N n0 B M0 w0 F e0 k r) a w := by
  intro n
  induction n using Nat.strongRecOn with
  | _ n ih =>
  intro c k r env st a w hok hlo h hk
  cases n with
  | zero => cases hk
  | succ n =>
  have ihn := @ih n (Nat.lt_succ_self n)
  have hcut : ∀ id f, lawOf hs c = some (id, f) → c.wp P (PostX P N n0 B M0 w0 F e0 k r) a w := by
    intro id f hl
    have hmem : c ∈ cutsOf c := by
      unfold lawOf at hl
      cases c <;> first | (simp [cutId] at hl; done) | simp [cutsOf]
    simp only [exec, hl] at hk
    split at hk
    · rename_i alts ha
      rw [altK_bind] at hk
      cases hx : altK alts some with
      | none => rw [hx] at hk; cases hk
      | some y =>
        rw [hx] at hk
        obtain ⟨env1, hcl1⟩ := clearSt_sound h hF hs.loops id
        exact wp_mono (hlo c hmem id f hl _ alts ha y hx hF hok hcl1) fun e a w hp => postX_of hk hp
    · cases hk
  cases hl : lawOf hs c with
  | some q => exact hcut q.1 q.2 hl
  | none =>
  clear hcut
  cases c with
  | skip => simp only [exec, hl] at hk; exact wp_skip ⟨env, st, h, hk⟩
  | label l => simp only [exec, hl] at hk; exact wp_label ⟨env, st, h, hk⟩
  | ret => simp only [exec, hl] at hk; exact wp_ret ⟨env, st, h, hk⟩
  | exit id => simp only [exec, hl] at hk; exact wp_exit ⟨env, st, h, hk⟩
  | seq x y =>
    simp only [okC, Bool.and_eq_true] at hok
    simp only [exec, hl] at hk
    simp only [cutsOf, List.mem_append] at hlo
    refine wp_seq (wp_mono (ihn hok.1 (fun b hb => hlo b (.inl hb)) h hk) ?_)
    intro e a' w' hp
    cases e with
    | normal =>
      obtain ⟨env', st', h1, h2⟩ := hp
      exact ihn hok.2 (fun b hb => hlo b (.inr hb)) h1 h2
    | exit i => exact hp
    | ret => exact hp
    | _ => exact hp.elim
  | block id x =>
    simp only [okC] at hok
    simp only [exec, hl] at hk
    refine wp_block (wp_mono (ihn hok (by simpa [cutsOf] using hlo) h hk) ?_)
    intro e a' w' hp
    cases e with
    | normal => exact hp
    | exit i =>
      obtain ⟨env', st', h1, h2⟩ := hp
      simp only [Exit.inBlock]
      simp only [beq_eq'] at h2
      by_cases hi : i = id
      · rw [cond_true (by simpa using hi)] at h2
        rw [if_pos hi]
        exact ⟨env', st', h1, h2⟩
      · rw [cond_false (by simpa using hi)] at h2
        rw [if_neg hi]
        exact ⟨env', st', h1, h2⟩
    | ret => exact hp
    | _ => exact hp.elim
  | cond c x y =>
    simp only [okC, Bool.and_eq_true] at hok
    simp only [exec, hl] at hk
    simp only [cutsOf, List.mem_cons, List.mem_append] at hlo
    have hc := h.ev c
    split at hk
    · rename_i b he
      rw [he] at hc
      have hb : a.eval c = .bool b := hc
      cases b with
      | true => exact wp_cond_true hb (ihn hok.1 (fun b hb => hlo b (.inr (.inl hb))) h hk)
      | false => exact wp_cond_false hb (ihn hok.2 (fun b hb => hlo b (.inr (.inr hb))) h hk)
    · rename_i b he
      rw [he] at hc
      have hb : a.eval c = .bool b := hc
      split at hk
      · rename_i t
        have put : ∀ z : Bool, b = z → Rel P N n0 B M0 w0 F e0 env { st with tmps := set st.tmps t (.c (.k z)) } a w := by
          intro z hz
          subst hz
          refine h.tmps fun t' y hy => ?_
          rw [get_set] at hy
          by_cases ht : t' = t
          · rw [if_pos ht] at hy
            simp only [Option.some.injEq] at hy
            subst hy ht
            exact hb
          · rw [if_neg ht] at hy
            exact h.tm t' y hy
        cases b with
        | true => exact wp_cond_true hb (ihn hok.1 (fun b hb => hlo b (.inr (.inl hb))) (put true rfl) hk)
        | false => exact wp_cond_false hb (ihn hok.2 (fun b hb => hlo b (.inr (.inr hb))) (put false rfl) hk)
      · cases hk
    · cases hk
  | loop x =>
    simp only [okC] at hok
    refine wp_loop_ghost (fun m a w => m ≤ n + 1 ∧ ∃ env st, Rel P N n0 B M0 w0 F e0 env st a w ∧ exec P cl hs kb m (.loop x) st k = some r) (n + 1) ⟨Nat.le_refl _, env, st, h, hk⟩ ?_
    rintro m a' w' ⟨hm, env', st', h1, h2⟩
    cases m with
    | zero => cases h2
    | succ m =>
      simp only [exec, hl] at h2
      obtain ⟨env2, hcl2⟩ := clearSt_sound h1 hF hs.loops (3 * firstId x)
      refine wp_mono (@ih m (by omega) _ _ _ _ _ _ _ hok (fun b hb => hlo b (by simp [cutsOf, hb])) hcl2 h2) ?_
      intro e a'' w'' hp
      cases e with
      | normal =>
        obtain ⟨env'', st'', h3, h4⟩ := hp
        obtain ⟨env3, hcl3⟩ := clearSt_sound h3 hF hs.loops (3 * firstId x)
        exact ⟨m, Nat.lt_succ_self m, by omega, env3, _, hcl3, h4⟩
      | exit i => exact hp
      | ret => exact hp
      | _ => exact hp.elim
  | region id ops d =>
    simp only [okC] at hok
    cases d with
    | false =>
      simp only [exec, hl] at hk
      exact wp_region_list (regOps_sound (k := k .normal) (r := r) (Q := PostX P N n0 B M0 w0 F e0 k r) hcl hF (fun a w hp => hp) (trim_sound h hs id) (okC_ops hok) hk)
    | true =>
      simp only [exec, hl] at hk
      exact hdr hF (trim_sound h hs id) (okC_ops hok) hk fun a w hp => hp
  | _ => simp only [exec, hl] at hk; cases hk
end
end Go.AM
