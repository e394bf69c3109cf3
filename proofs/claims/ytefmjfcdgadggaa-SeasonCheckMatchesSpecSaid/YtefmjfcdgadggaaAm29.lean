/- The abstract machine: functions. -/
import Derived.Test.YtefmjfcdgadggaaAm28
set_option linter.all false
namespace Go.AM
open Go

theorem okC_mono {n m : Nat} (hnm : n ≤ m) : ∀ {c : Code}, okC n c = true → okC m c = true := by
  intro c
  induction c with
  | region id ops d =>
    intro h
    simp only [okC, List.all_eq_true] at h ⊢
    intro o ho
    have := h o ho
    cases hd : o.dst with
    | some d => rw [hd] at this; exact Nat.ble_eq_true_of_le (Nat.le_trans (Nat.le_of_ble_eq_true this) hnm)
    | none => rfl
  | seq a b iha ihb => intro h; simp only [okC, Bool.and_eq_true] at h ⊢; exact ⟨iha h.1, ihb h.2⟩
  | cond c a b iha ihb => intro h; simp only [okC, Bool.and_eq_true] at h ⊢; exact ⟨iha h.1, ihb h.2⟩
  | block id b ih => intro h; simp only [okC] at h ⊢; exact ih h
  | loop b ih => intro h; simp only [okC] at h ⊢; exact ih h
  | _ => intro _; rfl
section
variable {P : Program} {N n0 kb : Nat} {F : Nat → Prop} {B M0 : Stab} {w0 : World} {e0 env : Env} {st : St} {a : Act} {w : World}
theorem get_params {xs : List V} : ∀ {i t : Nat}, get (params i xs) t = if i ≤ t then xs[t - i]? else none := by
  induction xs with
  | nil => intro i t; simp [params, get]
  | cons x xs ih =>
    intro i t
    simp only [params, get, beq_eq', ih]
    by_cases h : i = t
    · subst h; simp
    · rw [cond_false (by simpa using h)]
      by_cases h1 : i ≤ t
      · rw [if_pos h1, if_pos (by omega), show t - i = (t - (i + 1)) + 1 by omega, List.getElem?_cons_succ]
      · rw [if_neg h1, if_neg (by omega)]
def resV (a : Act) : ResultVar → Sem Value
  | .tmp t => pure (a.tmps.getD t undef)
  | .cell x t => do loadVar t (← asAddr (a.tmps.getD x undef))
theorem share_mut : ∀ {ks : List Nat} {mem : AL Obj} {key : Nat} {ob : Obj}, get (shareKeys mem ks) key = some ob → ∃ ob0, get mem key = some ob0 ∧ ∀ (s : Slot) b x, MutO P s ob b x → MutO P s ob0 b x
  | [], mem, key, ob, h => ⟨ob, h, fun _ _ _ q => q⟩
  | k :: ks, mem, key, ob, h => by
    simp only [shareKeys] at h
    obtain ⟨ob1, h1, h2⟩ := share_mut h
    cases hg : get mem k with
    | none => rw [hg] at h1; exact ⟨ob1, h1, h2⟩
    | some o =>
      rw [hg] at h1
      simp only [get_set] at h1
      by_cases hk : key = k
      · rw [if_pos hk] at h1
        simp only [Option.some.injEq] at h1
        subst h1 hk
        refine ⟨o, hg, fun s b x hm => ?_⟩
        have := h2 s b x hm
        cases o with
        | row e ex nl xs =>
          simp only [shareO, MutO] at this ⊢
          refine ⟨this.1, this.2.1, ?_⟩
          rcases this.2.2 with q | q
          · cases q
          · exact .inr q
        | _ => exact this
      · rw [if_neg hk] at h1
        exact ⟨ob1, h1, h2⟩
theorem share_keeps {env : Env} (mem : AL Obj) (ks : List Nat) : Keeps w (Sof P B M0 n0 env mem w) w (Sof P B M0 n0 env (shareKeys mem ks) w) := fun b o v hS hv =>
  ⟨⟨hS.1, hS.2.1, fun key ob hg hm => let ⟨ob0, g0, m0⟩ := share_mut (P := P) hg; hS.2.2 key ob0 g0 (m0 _ _ _ hm)⟩, hv⟩
theorem resultVars_sound (h : Rel P N n0 B M0 w0 F e0 env st a w) : ∀ {l : List ResultVar} {rs : List V}, resultVars P st l = some rs →
    ∃ vs, (l.mapM (resV a)).run P w = .ok vs w ∧ All2 (VRel P env (Sof P B M0 n0 env st.mem w) w) rs vs
  | [], rs, hr => by
    simp only [resultVars, Option.some.injEq] at hr
    subst hr
    exact ⟨[], by simp, trivial⟩
  | .tmp t :: l, rs, hr => by
    simp only [resultVars] at hr
    split at hr
    · rename_i xs hxs
      simp only [Option.some.injEq] at hr
      subst hr
      obtain ⟨vs, h1, h2⟩ := resultVars_sound h hxs
      refine ⟨a.tmps.getD t undef :: vs, ?_, h.evu (.tmp t), h2⟩
      simp only [List.mapM_cons, resV, Sem.run_bind, Sem.run_pure, Result.andThen_ok, h1]
    · cases hr
  | .cell x T :: l, rs, hr => by
    simp only [resultVars] at hr
    split at hr
    · rename_i y xs hy hxs
      simp only [Option.some.injEq] at hr
      subst hr
      obtain ⟨vs, h1, h2⟩ := resultVars_sound h hxs
      obtain ⟨ad, v, q1, q2, q3⟩ := loadV_sound h.ob (h.evu (.tmp x)) hy
      have q1' : a.tmps.getD x undef = .pointer (some ad) := q1
      refine ⟨v :: vs, ?_, q3, h2⟩
      simp only [List.mapM_cons, resV, Sem.run_bind, q1', asAddr, Sem.run_pure, Result.andThen_ok, q2, h1]
    · cases hr
theorem vrel1_of {S : Stab} {x : V} {v : Value} (hp : plainV x = true) (h : VRel P env S w x v) : VRel1 P env S w x v := by
  cases x with
  | c c => exact h
  | g xs => exact h
  | t => cases hp
  | w => cases hp
theorem results_rel {S : Stab} {rs : List V} {vs : List Value} (hp : rs.all plainV = true) (h : All2 (VRel P env S w) rs vs) : VRel P env S w (resultOf rs) (if h : vs.length = 1 then vs[0] else .tuple vs.toArray) := by
  rw [List.all_eq_true] at hp
  have hl := h.length
  match rs, vs, h, hl, hp with
  | [], [], _, _, _ => exact ⟨#[], rfl, trivial⟩
  | [x], [v], h, _, _ => simpa [resultOf] using h.1
  | x :: y :: r, v :: u :: s, h, _, hp =>
    rw [dif_neg (by simp)]
    exact ⟨_, rfl, h.mono fun x v hx hxv => vrel1_of (hp x hx) hxv⟩
theorem plain_coe {T : TypeId} {x : V} (h : plainV x = true) : plainV (coe P T x) = true := by
  unfold coe
  split
  · split <;> rfl
  · exact h
theorem coeRes_sound {S : Stab} : ∀ {ts : List TypeId} {xs : List V} {vs : List Value}, All2 (VRel P env S w) xs vs → All2 (VRel P env S w) (coeRes P ts xs) vs
  | [], xs, vs, h => by simpa [coeRes] using h
  | T :: ts, [], [], h => by simpa [coeRes] using h
  | T :: ts, x :: xs, v :: vs, h => ⟨coe_rel h.1, coeRes_sound h.2⟩
  | T :: ts, [], _ :: _, h => h.elim
  | T :: ts, _ :: _, [], h => h.elim
theorem finish_sound {fn : Func} {r : Res} (h : Rel P N n0 B M0 w0 F e0 env st a w) (hf : finish P fn kb st = some r) :
    ∃ v, (results fn a.tmps).run P w = .ok v w ∧ MRel P n0 B M0 w0 F e0 env r.2 w ∧ VRel P env (Sof P B M0 n0 env r.2 w) w (resultOf r.1) v := by
  unfold finish at hf
  split at hf
  · cases hf
  · rename_i rs hrs
    simp only at hf
    have hsh := Rel.share (rs.flatMap rowsV) (mem := st.mem) h
    generalize hmem : shareKeys st.mem (rs.flatMap rowsV) = mem at hf hsh
    split at hf
    · cases hf
    · rename_i acc hacc
      cases hp : (coeRes P fn.resultTypes.toList (rs.map (dataV mem))).all plainV with
      | false => rw [hp] at hf; cases hf
      | true =>
        rw [hp] at hf
        simp only [cond_true, Option.some.injEq] at hf
        subst hf
        have hres : ∀ m, Rel P N n0 B M0 w0 F e0 env { st with mem := m } a w → True := fun _ _ => trivial
        obtain ⟨vs, h1, h2⟩ := resultVars_sound h hrs
        have hk1 : Keeps w (Sof P B M0 n0 env st.mem w) w (Sof P B M0 n0 env mem w) := by
          rw [← hmem]
          exact share_keeps _ _
        have h3 : All2 (VRel P env (Sof P B M0 n0 env mem w) w) (coeRes P fn.resultTypes.toList (rs.map (dataV mem))) vs := coeRes_sound <| h2.mapl fun x v _ hxv => dataV_sound hsh.ob hsh.rows (VRel.mono hk1 (fun _ => rfl) hxv)
        have hwk := hsh.weaken (tmps := st.tmps) (mem := keep (fun x => acc.any fun r => Nat.beq r.key x) mem) (fun _ _ q => q) (fun _ _ q => get_keep _ _ _ _ q)
        have hk2 : Keeps w (Sof P B M0 n0 env mem w) w (Sof P B M0 n0 env (keep (fun x => acc.any fun r => Nat.beq r.key x) mem) w) := fun b o v hS hv => ⟨⟨hS.1, hS.2.1, fun key ob hg hmu => hS.2.2 key ob (get_keep _ _ _ _ hg) hmu⟩, hv⟩
        refine ⟨if h : vs.length = 1 then vs[0] else .tuple vs.toArray, ?_, hwk.toM, results_rel hp (h3.mono fun x v _ hxv => VRel.mono hk2 (fun _ => rfl) hxv)⟩
        have hfun : results fn a.tmps = (do let vs ← fn.results.mapM (resV a); pure (if h : vs.size = 1 then vs[0] else .tuple vs)) := by
          unfold results
          congr 1
        rw [hfun, Array.mapM_eq_mapM_toList]
        simp only [map_eq_pure_bind, Sem.run_bind, h1, Result.andThen_ok, Sem.run_pure]
        simp
/-- What is asked of the program at large. -/
structure ProgOk (P : Program) : Prop where
  mixed : P.follows .mixedOrders = true
  ok : ∀ (f : Nat) (fn : Func) (c : Code), P.funcs[f]? = some fn → fn.body = some c → okC fn.ntmps c = true
  num : ∀ (f : Nat) (fn : Func), P.funcs[f]? = some fn → fn.body.isNone = false → (fn.name == "runtime.NumGoroutine") = false
def LoopsOk (P : Program) (hs : Hint) (kb : Nat) (f : FuncId) : Prop := ∀ fn c, P.funcs[f]? = some fn → fn.body = some c → ∀ b ∈ cutsOf c, CutOk P hs kb b
theorem body_sound {cl : Oracle} {hs : Hint} {n : Nat} {f : FuncId} {args : List V} {mem : AL Obj} {r : Res} (hP : ProgOk P) (hcl : OracleOk P cl) (hdr : DrawSound P cl) (hlo : LoopsOk P hs mem.length f)
    (h : body P cl hs n f args mem = some r) : CallOk P f args mem r ∧ Enters P f := by
  unfold body at h
  split at h
  · cases h
  · rename_i fn hfn
    split at h
    · cases h
    · rename_i c hc
      have hbn : fn.body.isNone = false := by rw [hc]; rfl
      refine ⟨fun B env w vs hpre hargs => ?_, fn, hfn, hbn, hP.num f fn hfn hbn⟩
      refine calls_of_wp hfn hc ?_
      have M := hpre.rel
      have hrel : Rel P (vs ++ Array.replicate (fn.ntmps - vs.size) undef).size w.heap.size B (Mut0 P env mem) w (· < mem.length) env env { tmps := params 0 args, mem } { tmps := vs ++ Array.replicate (fn.ntmps - vs.size) undef, defers := [] } w := by
        refine ⟨rfl, rfl, rfl, ?_, M.ob, M.ds, M.mu, M.pr, M.ch, M.bb, M.fx⟩
        intro t x hx
        rw [get_params, if_pos (Nat.zero_le _), Nat.sub_zero] at hx
        obtain ⟨v, h1, h2⟩ := hargs.get hx
        rw [Array.getElem?_toList] at h1
        have hlt := (Array.getElem?_eq_some_iff.1 h1).1
        have : (vs ++ Array.replicate (fn.ntmps - vs.size) undef).getD t undef = v := by
          rw [Array.getD_eq_getD_getElem?, Array.getElem?_append_left hlt, h1]
          rfl
        rw [this]
        exact VRelA.of h2
      have hN : fn.ntmps ≤ (vs ++ Array.replicate (fn.ntmps - vs.size) undef).size := by simp; omega
      refine Code.wp_mono ?_ (exec_sound hcl hdr (fun _ h => h) n (okC_mono hN (hP.ok f fn c hfn hc)) (hlo fn c hfn hc) hrel h)
      intro e a' w' hp
      have fin : After P (vs ++ Array.replicate (fn.ntmps - vs.size) undef).size w.heap.size B (Mut0 P env mem) w (· < mem.length) env (fun st => finish P fn mem.length st) r a' w' →
          a'.defers = [] ∧ ∃ v, (results fn a'.tmps).run P w' = .ok v w' ∧ ∃ v', Ending.returned v = .returned v' ∧ CallPost P B env mem w r v' w' := by
        rintro ⟨env', st', h1, h2⟩
        obtain ⟨v, q1, q2, q3⟩ := finish_sound h1 h2
        exact ⟨h1.dfr, v, q1, v, rfl, env', q2, q3⟩
      cases e with
      | normal => exact fin hp
      | ret => exact fin hp
      | exit i =>
        obtain ⟨env', st', h1, h2⟩ := hp
        cases h2
      | _ => exact hp.elim
/-- One function more is known. -/
def ext (f : FuncId) (sp : List V → AL Obj → Option (List (Bool × Res))) (T : Oracle) : Oracle := fun g args mem =>
  bif Nat.beq g f then (match sp args mem with
    | some alts => some alts
    | none => T g args mem) else T g args mem
def noOracle : Oracle := fun _ _ _ => none
theorem noOracle_ok : OracleOk P noOracle := fun _ _ _ _ h => by cases h
theorem ext_ok {T : Oracle} (hT : OracleOk P T) {f : FuncId} {sp : List V → AL Obj → Option (List (Bool × Res))} (hent : Enters P f)
    (h : ∀ args mem alts, sp args mem = some alts → ∀ res, altK alts some = some res → CallOk P f args mem res) : OracleOk P (ext f sp T) := by
  intro g args mem alts hg
  unfold ext at hg
  cases hb : Nat.beq g f with
  | false => rw [hb] at hg; exact hT g args mem alts hg
  | true =>
    rw [hb] at hg
    have := Nat.eq_of_beq_eq_true hb
    subst this
    simp only [cond_true] at hg
    split at hg
    · rename_i alts' hs
      simp only [Option.some.injEq] at hg
      subst hg
      exact ⟨hent, h args mem alts' hs⟩
    · exact hT g args mem alts hg
/-- A piece's law out of a run of the machine. -/
theorem cutLaw_of {cl : Oracle} {hs' : Hint} {kb : Nat} {b : Code} {f : St → Option (List (Bool × (Ex × St)))} (hcl : OracleOk P cl) (hdr : DrawSound P cl) (hin : ∀ b' ∈ cutsOf b, CutOk P hs' kb b')
    (ts ks : List Nat)
    (h : ∀ st alts, f st = some alts → ∀ x, altK alts some = some x → ∃ n, exec P cl hs' kb n b st (fun e st => some (e, cutSt ts ks st)) = some x) : CutLaw P kb b f := by
  intro st alts hst x hx N n0 F B M0 w0 e0 env a w hF hok hrel
  obtain ⟨n, hn⟩ := h st alts hst x hx
  refine Code.wp_mono ?_ (exec_sound hcl hdr hF n hok hin hrel hn)
  intro e a' w' hp
  cases e with
  | normal => obtain ⟨env', st', h1, h2⟩ := hp; exact ⟨env', _, cutSt_sound h1 ts ks, h2⟩
  | exit i => obtain ⟨env', st', h1, h2⟩ := hp; exact ⟨env', _, cutSt_sound h1 ts ks, h2⟩
  | ret => obtain ⟨env', st', h1, h2⟩ := hp; exact ⟨env', _, cutSt_sound h1 ts ks, h2⟩
  | _ => exact hp.elim
end
end Go.AM
