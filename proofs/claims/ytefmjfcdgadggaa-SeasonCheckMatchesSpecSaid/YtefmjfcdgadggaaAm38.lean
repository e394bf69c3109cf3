/- The abstract machine: from a law's arguments to its answer. -/
import Derived.Test.YtefmjfcdgadggaaAm37
import Derived.Carry
import Derived.ChangeSame
set_option linter.all false
namespace Go.AM
open Go

/-! ### A law's arguments -/
def mkZ : List CK → List D → List C
  | k :: ks, d :: ds => mkC k d :: mkZ ks ds
  | _, _ => []
def argV (P : Program) (T : TypeId) (ds : List D) : V :=
  bif isAggB P T then .g (mkZ (kinds P T) ds) else match mkZ (kinds P T) ds with
    | x :: _ => .c x
    | [] => .c .u
def argVs (P : Program) : List TypeId → List (List D) → List V
  | T :: Ts, ds :: dss => argV P T ds :: argVs P Ts dss
  | _, _ => []
def ArgOk (P : Program) (m : Nat) (T : TypeId) (ds : List D) : Prop := All2 (TyK P m) (kinds P T) ds
theorem all2_cons {α β : Type} {R : α → β → Prop} {x : α} {xs : List α} {ys : List β} (h : All2 R (x :: xs) ys) : ∃ y r, ys = y :: r ∧ R x y ∧ All2 R xs r := by
  cases ys with
  | nil => exact h.elim
  | cons y r => exact ⟨y, r, rfl, h.1, h.2⟩
theorem all2_nil {α β : Type} {R : α → β → Prop} {ys : List β} (h : All2 R [] ys) : ys = [] := by
  cases ys with
  | nil => rfl
  | cons => exact h.elim
theorem ty_int {P : Program} {m : Nat} {k : IntKind} {d : D} (h : TyK P (m + 1) (.int k) d) : ∃ i, d = .i i ∧ (Lit.int k i).wf = true := h
theorem ty_bool {P : Program} {m : Nat} {d : D} (h : TyK P (m + 1) .bool d) : ∃ b, d = .b b := h
theorem ty_str {P : Program} {m : Nat} {d : D} (h : TyK P (m + 1) .str d) : ∃ s, d = .s s ∧ s.length ≤ maxLen := h
theorem ty_sl {P : Program} {m : Nat} {e : TypeId} {d : D} (h : TyK P (m + 1) (.sl e) d) : ∃ nl xs, d = .l nl xs ∧ (nl = true → xs = []) ∧ xs.length ≤ maxLen ∧ ∀ x ∈ xs, TyEl P (TyK P m) e x := h
def parB (P : Program) (m : Nat) (T : TypeId) : Bool := flatB P 12 T && (kinds P T).all (okK P m) && P.readableRec T && decide (T < P.types.size)
theorem mkC_rel {P : Program} {env : Env} {S : Stab} {w : World} {k : CK} {d : D} {v : Value} (h : RepD P w S k d v) : CRel P env S w (mkC k d) v := by
  cases h with
  | int k d => rfl
  | bool d => rfl
  | str d => rfl
  | nil e d h1 h2 => exact .nil e _ h1 h2
  | emp e d a cap h1 h2 hm => exact .emp e _ a cap h1 h2 hm
  | sl e d b off cap cv h1 h2 hl hm h3 h4 => exact .sl e (.l d.isNil d.items) b off cap cv h1 h2 hl hm h3 h4
theorem mkZ_rel {P : Program} {env : Env} {S : Stab} {w : World} {m : Nat} : ∀ {kds : List (CK × D)} {cs : List Value}, All2 (RT P w m) kds cs → Keeps w (Sw w) w S → All2 (CRel P env S w) (mkZ (kds.map Prod.fst) (kds.map Prod.snd)) cs
  | [], [], _, _ => trivial
  | x :: r, y :: s, h, hk => ⟨mkC_rel (h.1.2.mono hk), mkZ_rel h.2 hk⟩
  | [], _ :: _, h, _ => h.elim
  | _ :: _, [], h, _ => h.elim
section
variable {H : Type} {enc : TypeId × Value → H} {P : Program} {W : World}
theorem arg_rel {env : Env} {S : Stab} {m base : Nat} {T : TypeId} {v : Value} {d : DataW H} {ps : List MemPlace} (hp : parB P m T = true) (h : DataW.Trod enc P W 0 (fun _ => true) true T v d ps) (ho : Value.okWide P W .any base T v)
    (hk : Keeps W (Sw W) W S) : ∃ ds, ArgOk P m T ds ∧ VRel P env S W (argV P T ds) v := by
  unfold parB at hp
  simp only [Bool.and_eq_true] at hp
  obtain ⟨⟨⟨p1, p2⟩, _⟩, _⟩ := hp
  obtain ⟨fuel, h⟩ := h
  obtain ⟨kds, k1, k2⟩ := trod_flat m 12 fuel T _ d ps p1 p2 h
  have k1 : kds.map Prod.fst = kinds P T := k1
  refine ⟨kds.map Prod.snd, ?_, ?_⟩
  · unfold ArgOk
    rw [← k1]
    refine .of_get (by simp) fun j x y hx hy => ?_
    rw [List.getElem?_map] at hx hy
    obtain ⟨kd, h1, rfl⟩ := Option.map_eq_some_iff.1 hx
    rw [h1] at hy
    cases hy
    obtain ⟨v, _, hv⟩ := k2.get h1
    exact hv.1
  · have hz := mkZ_rel (env := env) k2 hk
    rw [k1] at hz
    unfold argV
    by_cases ha : isAggB P T = true
    · rw [cond_true ha]
      have : ∃ cs, v = .agg cs := by
        unfold isAggB at ha
        unfold Value.okWide at ho
        split at ho
        · obtain ⟨cs, h1, _⟩ := ho; exact ⟨cs, h1⟩
        · obtain ⟨cs, h1, _⟩ := ho; exact ⟨cs, h1⟩
        · rename_i q1 q2
          split at ha
          · rename_i hu; exact absurd hu (q1 _)
          · rename_i hu; exact absurd hu (q2 _ _)
          · cases ha
      obtain ⟨cs, rfl⟩ := this
      exact ⟨cs, rfl, hz⟩
    · have ha := eq_false_of_ne_true ha
      rw [cond_false ha]
      obtain ⟨k0, hk0⟩ := flat_one p1 ha
      have hk0 : kinds P T = [k0] := hk0
      have hv : v.cells.toList = [v] := by
        cases v with
        | agg cs =>
          exfalso
          unfold isAggB at ha
          unfold Value.okWide at ho
          split at ho
          · rename_i hu; simp [hu] at ha
          · rename_i hu; simp [hu] at ha
          · unfold Cell.okWide at ho
            split at ho <;> (try rename_i hq) <;> (try cases hq)
            unfold Cell.ok at ho
            split at ho <;> (try rename_i hq) <;> (try cases hq) <;> exact ho
        | _ => rfl
      rw [hv] at hz
      generalize hzz : mkZ (kinds P T) (kds.map Prod.snd) = z at hz
      match z, hz with
      | [x], hz => exact hz.1
theorem args_rel {env : Env} {S : Stab} {m base : Nat} (hk : Keeps W (Sw W) W S) : ∀ {Ts : List TypeId} {vs : List Value} {ds : List (DataW H)} {ps : List MemPlace}, (∀ T ∈ Ts, parB P m T = true) → DataW.TrodAll enc P W 0 (fun _ => true) true Ts vs ds ps →
    (∀ (j : Nat) t v, Ts[j]? = some t → vs[j]? = some v → Value.okWide P W .any base t v) → ∃ dss, All2 (ArgOk P m) Ts dss ∧ All2 (VRel P env S W) (argVs P Ts dss) vs
  | [], vs, ds, ps, _, h, _ => by
    obtain ⟨rfl, rfl, rfl⟩ := ChangeShapes.trodAll_nil h
    exact ⟨[], trivial, trivial⟩
  | T :: Ts, vs, ds, ps, hp, h, ho => by
    obtain ⟨v, vs1, d, ds1, a, b, rfl, rfl, rfl, h1, h2⟩ := ChangeShapes.trodAll_cons h
    obtain ⟨x, q1, q2⟩ := arg_rel (env := env) (hp T (by simp)) h1 (ho 0 T v rfl rfl) hk
    obtain ⟨xs, q3, q4⟩ := args_rel hk (fun T hT => hp T (by simp [hT])) h2 (fun j t v ht hv => ho (j + 1) t v (by simpa using ht) (by simpa using hv))
    exact ⟨x :: xs, ⟨q1, q3⟩, ⟨q2, q4⟩⟩
/-- The arguments read behind the call as they did before. -/
theorem args_stay {W' : World} {m : Nat} {sp : Nat → Bool} (hl : laidOutB P = true) (hb : RowKit.Below W.heap.size W W') : ∀ {Ts : List TypeId} {vs : List Value} {ds : List (DataW H)} {ps : List MemPlace}, (∀ T ∈ Ts, parB P m T = true) → DataW.TrodAll enc P W 0 (fun _ => true) true Ts vs ds ps →
    (∀ p ∈ ps, p.block < W.heap.size) → (∀ p ∈ ps, sp p.block = true) → DataW.TrodAll enc P W' 0 sp true Ts vs ds ps
  | [], vs, ds, ps, _, h, _, _ => by
    obtain ⟨rfl, rfl, rfl⟩ := ChangeShapes.trodAll_nil h
    rfl
  | T :: Ts, vs, ds, ps, hp, h, hlt, hs => by
    obtain ⟨v, vs1, d, ds1, a, b, rfl, rfl, rfl, h1, h2⟩ := ChangeShapes.trodAll_cons h
    have hT := hp T (by simp)
    unfold parB at hT
    simp only [Bool.and_eq_true, decide_eq_true_eq] at hT
    exact ⟨a, b, WideElems.Trod_stays hl hT.1.2 hT.2 h1 (fun x hx => hb.same (hlt x (List.mem_append_left _ hx))) (fun x hx => hs x (List.mem_append_left _ hx)),
      args_stay hl hb (fun T hT => hp T (by simp [hT])) h2 (fun x hx => hlt x (List.mem_append_right _ hx)) (fun x hx => hs x (List.mem_append_right _ hx)), rfl⟩

/-- A law that answered true, with nothing of the old memory turned. -/
theorem law_post {W' : World} {f : Func} {s : ChangeSpec} {apart fresh handsOn again : Bool} {args : Array Value} {ds gs : List (DataW H)} {before : List MemPlace} {m : Nat} {tb : TypeId} (hl : laidOutB P = true) (hvars : s.vars = [])
    (hres : f.resultTypes = #[tb]) (htb : P.underlying tb = some .bool) (hpar : ∀ T ∈ f.params.toList, parB P m T = true) (hs : ∀ l, l.length = f.params.size → s.fn H l = { results := [.lit (.bool true)], args := l })
    (hW : DataW.Whole enc P f.params.toList s.vars apart W args.toList ds gs before) (hb : RowKit.Below W.heap.size W W') : s.post enc P f apart fresh handsOn again W args (.bool true) W' := by
  have hlt := hW.lt
  obtain ⟨p, q, h1, h2, h3, h4, h5⟩ := hW
  rw [hvars] at h2
  have e2 : gs = [] ∧ q = [] := by
    cases gs with
    | nil => exact ⟨rfl, h2⟩
    | cons => exact h2.elim
  obtain ⟨rfl, rfl⟩ := e2
  rw [List.append_nil] at h3
  subst h3
  have len : ∀ {Ts : List TypeId} {vs : List Value} {ds : List (DataW H)} {ps : List MemPlace}, DataW.TrodAll enc P W 0 (fun _ => true) true Ts vs ds ps → ds.length = Ts.length := by
    intro Ts
    induction Ts with
    | nil => intro vs ds ps h; obtain ⟨rfl, rfl, rfl⟩ := ChangeShapes.trodAll_nil h; rfl
    | cons T Ts ih =>
      intro vs ds ps h
      obtain ⟨v, vs1, d, ds1, a, b, rfl, rfl, rfl, _, h⟩ := ChangeShapes.trodAll_cons h
      simp [ih h]
  have hs := hs (ds ++ []) (by rw [List.append_nil, len h1]; simp)
  rw [List.append_nil] at hs
  have hone : ∀ (b : Nat) (sp : Nat → Bool) (hd : Bool), DataW.Trod enc P W' b sp hd tb (.bool true) (.lit (.bool true)) [] := fun b sp hd => ⟨1, by simp [DataW.trod, htb, Value.cells]⟩
  have hresl : ((Value.bool true).resultList f.resultTypes.size) = [.bool true] := by rw [hres]; rfl
  refine ⟨ds, [], before, [], before, [], ⟨before, [], h1, by rw [hvars]; rfl, by simp, h4, h5⟩, ?_, ?_, ?_, hb.frame _, fun _ => ⟨?_, ds |>.cons (.lit (.bool true)), [], before, ?_, fun x hx _ => hx⟩⟩
  · rw [List.append_nil, hs, hresl, hres]
    exact ⟨[], [], hone _ _ _, rfl, rfl⟩
  · rw [List.append_nil, hs]
    exact args_stay hl hb hpar h1 hlt fun x hx => decide_eq_true (hlt x hx)
  · rw [List.append_nil, hs, hvars]; rfl
  · intro j t r hj hv'
    rw [hresl] at hv'
    rw [hres] at hj
    cases j with
    | zero =>
      simp at hj hv'
      subst hj hv'
      simp [Value.okWide, htb, Cell.okWide, Cell.ok]
    | succ j => simp at hj
  · refine ⟨before, [], ?_, by rw [hvars]; rfl, by simp, ?_, h5⟩
    · rw [hresl, hres]
      exact ⟨[], before, hone _ _ _, args_stay hl hb hpar h1 hlt fun x hx => rfl, rfl⟩
    · intro b off hx
      rw [hb.frozen (p := ⟨b, off, none⟩) (hlt _ hx)]
      exact h4 b off hx

/-- A law holds if the abstract machine answers true for all typed data. -/
theorem law_call {f : FuncId} {fn : Func} {s : ChangeSpec} {apart fresh handsOn again : Bool} {m : Nat} {tb : TypeId} (hl : laidOutB P = true) (hvars : s.vars = [])
    (hres : fn.resultTypes = #[tb]) (htb : P.underlying tb = some .bool) (hpar : fn.params.all (parB P m) = true) (hs : ∀ l, l.length = fn.params.size → s.fn H l = { results := [.lit (.bool true)], args := l })
    (hc : ∀ dss, All2 (ArgOk P m) fn.params.toList dss → CallOk P f (argVs P fn.params.toList dss) [] ([.c (.b true)], []))
    {base : Nat} {args : Array Value} {ds gs : List (DataW H)} {before : List MemPlace} (hok : ∀ (j : Nat) t v, fn.params[j]? = some t → args[j]? = some v → Value.okWide P W .any base t v)
    (hW : DataW.Whole enc P fn.params.toList s.vars apart W args.toList ds gs before) : Calls P f args W fun e W' => ∃ v, e = .returned v ∧ s.post enc P fn apart fresh handsOn again W args v W' := by
  have hpar' : ∀ T ∈ fn.params.toList, parB P m T = true := by
    rw [Array.all_eq_true_iff_forall_mem] at hpar
    exact fun T hT => hpar T (by simpa using hT)
  let env : Env := fun _ => ⟨0, 0, none⟩
  have hkeep : Keeps W (Sw W) W (Sof P (Sw W) (Mut0 P env []) W.heap.size env [] W) := fun b o v hS hc => ⟨⟨.inl hS, hS, fun k ob hg => by cases hg⟩, hc⟩
  obtain ⟨p, q, h1, _⟩ := id hW
  obtain ⟨dss, d1, d2⟩ := args_rel (env := env) hkeep hpar' h1 (fun j t v ht hv => hok j t v (by simpa using ht) (by simpa using hv))
  have hpre : CallPre P (Sw W) env [] W := ⟨⟨rfl, fun k o h => (by cases h), fun k k' o o' h => (by cases h), fun k o b x h => (by cases h), fun k e ex xs h => (by cases h), Chg.refl _ W, fun b o h => h, fun _ _ => rfl⟩, fun k o h => (by cases h)⟩
  refine (hc dss d1 (Sw W) env W args hpre d2).mono fun e W' ⟨v, he, env', hm, hv'⟩ => ⟨v, he, ?_⟩
  have hno : ∀ b o, ¬ Mut0 P env [] b o := fun b o ⟨k, ob, hg, _⟩ => by cases hg
  have hb : RowKit.Below W.heap.size W W' := ⟨hm.ch.os, hm.ch.tape, hm.ch.output, hm.ch.size, fun k hk => by
    have hs := Array.getElem?_eq_getElem hk
    rw [hs]
    exact hm.ch.other k _ hs (hno k)⟩
  have : v = .bool true := hv'
  subst this
  exact law_post hl hvars hres htb hpar' hs hW hb
end
end Go.AM
