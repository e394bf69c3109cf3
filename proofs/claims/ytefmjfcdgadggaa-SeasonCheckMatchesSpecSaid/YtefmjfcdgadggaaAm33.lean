/- The abstract machine: regions whose order is drawn, sound. -/
import Derived.Test.YtefmjfcdgadggaaAm32
set_option linter.all false
namespace Go.AM
open Go

section
variable {P : Program} {N n0 kb : Nat} {F : Nat → Prop} {B M0 : Stab} {w0 : World} {e0 env : Env} {st : St} {a : Act} {w : World}
theorem Rel.eq (h : Rel P N n0 B M0 w0 F e0 env st a w) {st' : St} (he : StEq st st') : Rel P N n0 B M0 w0 F e0 env st' a w :=
  h.weaken (fun t x hx => by rw [he.1]; exact hx) (fun k ob hg => by rw [he.2]; exact hg)

/-! ### The state ahead of a drawn region -/
theorem hitC_rel {S : Stab} {w' : World} {S' : Stab} (hk : Keeps w S w' S') {q : Nat → Bool} {c : C} {v : Value} (h : CRel P env S w c v) : CRel P env S' w' (hitC q c) v := by
  unfold hitC
  cases (keysOf c).any q with
  | true => trivial
  | false => exact CRel.mono hk (fun _ _ => rfl) h
theorem hit1_rel {S : Stab} {w' : World} {S' : Stab} (hk : Keeps w S w' S') {q : Nat → Bool} {x : V} {v : Value} (h : VRel1 P env S w x v) : VRel1 P env S' w' (hit1 q x) v := by
  cases x with
  | c c => exact hitC_rel hk h
  | g xs => obtain ⟨vs, h1, h2⟩ := h; exact ⟨vs, h1, h2.mapl fun c u _ hcu => hitC_rel hk hcu⟩
  | _ => exact h.elim
theorem hitV_rel {S : Stab} {w' : World} {S' : Stab} (hk : Keeps w S w' S') {q : Nat → Bool} {x : V} {v : Value} (h : VRelA P env S w a x v) : VRelA P env S' w' a (hitV q x) v := by
  cases x with
  | c c => exact hitC_rel hk h
  | g xs => obtain ⟨vs, h1, h2⟩ := h; exact ⟨vs, h1, h2.mapl fun c u _ hcu => hitC_rel hk hcu⟩
  | t xs => obtain ⟨vs, h1, h2⟩ := h; exact ⟨vs, h1, h2.mapl fun c u _ hcu => hit1_rel hk hcu⟩
  | w s b x => trivial
theorem mutO_hit {q : Nat → Bool} {s : Slot} {o : Obj} {b x : Nat} : MutO P s (hitO q o) b x ↔ MutO P s o b x := by
  cases o <;> simp [hitO, MutO]
theorem realO_hit {q : Nat → Bool} {o : Obj} : realO (hitO q o) ↔ realO o := by cases o <;> simp [hitO, realO]
theorem get_cleanD {q : Nat → Bool} {k : Nat} {ob : Obj} (h : get (cleanD q st).mem k = some ob) : q k = false ∧ ∃ ob0, get st.mem k = some ob0 ∧ ob = hitO q ob0 := by
  unfold cleanD at h
  simp only [get_mapV, get_keep'] at h
  cases hq : q k with
  | true => rw [hq] at h; simp at h
  | false =>
    rw [hq] at h
    cases hg : get st.mem k with
    | none => rw [hg] at h; simp at h
    | some ob0 => rw [hg] at h; simp at h; exact ⟨rfl, ob0, rfl, h.symm⟩
theorem clean_rel (h : Rel P N n0 B M0 w0 F e0 env st a w) (q : Nat → Bool) (d : Nat) : Rel P N n0 B M0 w0 F e0 env (cleanD q st) a { w with drawn := d } := by
  have hch : Chg (fun _ _ => False) w { w with drawn := d } := ⟨rfl, rfl, rfl, Nat.le_refl _, fun b cur T fr hb => ⟨cur, hb, rfl, fun _ _ => rfl⟩, fun b ob hb _ => hb⟩
  refine Rel.step (tmps' := (cleanD q st).tmps) (mem' := (cleanD q st).mem) h (fun _ _ => False) hch (fun _ _ hf => hf.elim) ?_ ?_ ?_ ?_ ?_ (fun _ _ => rfl)
  · intro k ob b x hg hm
    obtain ⟨_, ob0, h1, rfl⟩ := get_cleanD hg
    exact .inr ⟨k, ob0, h1, mutO_hit.1 hm⟩
  · intro hkeep t x hx
    unfold cleanD at hx
    simp only [get_mapV] at hx
    cases hg : get st.tmps t with
    | none => rw [hg] at hx; cases hx
    | some y =>
      rw [hg] at hx
      simp only [Option.map_some, Option.some.injEq] at hx
      subst hx
      exact hitV_rel hkeep (h.tm t y hg)
  · intro hkeep k ob hg
    obtain ⟨_, ob0, h1, rfl⟩ := get_cleanD hg
    have ho := h.ob k ob0 h1
    cases ob0 with
    | box cs =>
      obtain ⟨cur, T, c1, c2, c3⟩ := ho
      refine ⟨cur, T, c1, by simpa using c2, ?_⟩
      simp only [List.length_map]
      exact c3.mapl fun x y _ hxy => hitC_rel hkeep hxy
    | row e ex nl xs => exact row_mono (w' := { w with drawn := d }) hkeep (fun _ => rfl) ho ex
    | map kt vt es => exact map_mono (w' := { w with drawn := d }) hkeep rfl ho
  · intro k k' o o' hg hg' hr hr' hne
    obtain ⟨_, ob0, h1, rfl⟩ := get_cleanD hg
    obtain ⟨_, ob0', h1', rfl⟩ := get_cleanD hg'
    exact h.ds k k' ob0 ob0' h1 h1' (realO_hit.1 hr) (realO_hit.1 hr') hne
  · intro key e ex xs hg x hx
    obtain ⟨_, ob0, h1, h2⟩ := get_cleanD hg
    cases ob0 with
    | row e' ex' nl' xs' =>
      simp only [hitO, Obj.row.injEq] at h2
      obtain ⟨rfl, rfl, rfl, rfl⟩ := h2
      exact h.pr key e ex xs h1 x hx
    | box cs => cases h2
    | map kt vt es => cases h2
theorem hitC_keys {q : Nat → Bool} {c : C} : ∀ k ∈ keysOf (hitC q c), q k = false := by
  intro k hk
  unfold hitC at hk
  cases hq : (keysOf c).any q with
  | true => rw [hq] at hk; simp [keysOf] at hk
  | false =>
    rw [hq] at hk
    rw [List.any_eq_false] at hq
    simpa using hq k hk
theorem hit1_keys {q : Nat → Bool} {x : V} : ∀ k ∈ keysAll1 (hit1 q x), q k = false := by
  intro k hk
  cases x with
  | c c => exact hitC_keys k hk
  | g xs =>
    simp only [hit1, keysAll1, List.mem_flatMap, List.mem_map] at hk
    obtain ⟨c, ⟨c0, _, rfl⟩, h⟩ := hk
    exact hitC_keys k h
  | _ => simp [hit1, keysAll1, keysOf] at hk
theorem hitV_keys {q : Nat → Bool} {x : V} : ∀ k ∈ keysAll (hitV q x), q k = false := by
  intro k hk
  cases x with
  | c c => exact hitC_keys k hk
  | g xs =>
    simp only [hitV, keysAll, List.mem_flatMap, List.mem_map] at hk
    obtain ⟨c, ⟨c0, _, rfl⟩, h⟩ := hk
    exact hitC_keys k h
  | t xs =>
    simp only [hitV, keysAll, List.mem_flatMap, List.mem_map] at hk
    obtain ⟨c, ⟨c0, _, rfl⟩, h⟩ := hk
    exact hit1_keys k h
  | w s b x => simp [hitV, keysAll, keysOf] at hk
theorem clean_noW (q : Nat → Bool) : NoW (cleanD q st) := by
  intro t x hx s b y he
  unfold cleanD at hx
  simp only [get_mapV] at hx
  cases hg : get st.tmps t with
  | none => rw [hg] at hx; cases hx
  | some z =>
    rw [hg] at hx
    simp only [Option.map_some, Option.some.injEq] at hx
    subst he
    cases z <;> simp [hitV] at hx
theorem clean_cleanO {q : Nat → Bool} {o : Oper} (hq : ∀ k, q k = false → freshB kb o k = false) : CleanO kb o (cleanD q st) := by
  refine ⟨fun t x hx k hk => ?_, fun k ob hg => ?_⟩
  · unfold cleanD at hx
    simp only [get_mapV] at hx
    cases hg : get st.tmps t with
    | none => rw [hg] at hx; cases hx
    | some z =>
      rw [hg] at hx
      simp only [Option.map_some, Option.some.injEq] at hx
      subst hx
      exact hq k (hitV_keys k hk)
  · obtain ⟨h1, ob0, _, rfl⟩ := get_cleanD hg
    refine ⟨hq k h1, fun k' hk' => ?_⟩
    cases ob0 with
    | box cs =>
      simp only [hitO, keysOfO, List.mem_flatMap, List.mem_map] at hk'
      obtain ⟨c, ⟨c0, _, rfl⟩, h⟩ := hk'
      exact hq k' (hitC_keys k' h)
    | row => simp [hitO, keysOfO] at hk'
    | map => simp [hitO, keysOfO] at hk'
theorem freshAny_get {ops : List Oper} {k : Nat} (h : freshAny kb ops k = false) : ∀ o ∈ ops, freshB kb o k = false := by
  induction ops with
  | nil => intro o ho; simp at ho
  | cons x r ih =>
    simp only [freshAny, Bool.or_eq_false_iff] at h
    intro o ho
    rcases List.mem_cons.1 ho with rfl | ho
    · exact h.1
    · exact ih h.2 o ho

/-! ### The listed run, and every other -/
theorem drawRun_get {R : Type} {cl : Oracle} {ops : List Oper} {gs : List Nat} {r : R} : ∀ {l : List Oper} {st : St} {recs : List Rec} {k : St → List Rec → Option R}, drawRun P cl kb ops gs l st recs k = some r →
    ∃ rl stF, rl.length = l.length ∧ k stF (recs ++ rl) = some r ∧ ∀ (pre : List Oper) (rc : Nat → Rec), ops = pre ++ l → (∀ (i : Nat) (p : Rec), rl[i]? = some p → rc (pre.length + i) = p) →
      RunIx P cl kb ops gs rc ((List.range l.length).map (pre.length + ·)) st stF ∧ ∀ (i : Nat) (p : Rec) (o : Oper), rl[i]? = some p → l[i]? = some o → p.o = o
  | [], st, recs, k, h => ⟨[], st, rfl, by simpa [drawRun] using h, fun _ _ _ _ => ⟨StEq.refl _, by simp⟩⟩
  | o :: l, st, recs, k, h => by
    simp only [drawRun] at h
    obtain ⟨rec, h1, h2⟩ := stepC_rec h
    obtain ⟨rl, stF, q1, q2, q3⟩ := drawRun_get h2
    refine ⟨rec :: rl, stF, by simp [q1], by simpa using q2, fun pre rc he hrc => ?_⟩
    obtain ⟨q4, q5⟩ := q3 (pre ++ [o]) rc (by rw [he]; simp) (fun i p hp => by
      have := hrc (i + 1) p (by simpa using hp)
      rw [← this]; congr 1; simp; omega)
    have hr0 : rc pre.length = rec := hrc 0 rec (by simp)
    constructor
    · rw [show (o :: l).length = l.length + 1 from rfl, List.range_succ_eq_map, List.map_cons, List.map_map]
      refine ⟨o, by rw [he]; simp, by rw [Nat.add_zero, hr0]; exact h1, ?_⟩
      rw [Nat.add_zero, hr0]
      have : (List.range l.length).map ((pre.length + ·) ∘ Nat.succ) = (List.range l.length).map ((pre ++ [o]).length + ·) := by
        refine List.map_congr_left fun x _ => ?_
        simp; omega
      rw [this]
      exact q4
    · intro i p o' hp ho
      cases i with
      | zero => simp at hp ho; subst hp ho; exact h1.op
      | succ i => exact q5 i p o' (by simpa using hp) (by simpa using ho)
theorem keysAll_merge {o o' : Oper} {rec : Rec} (ho : rec.o = o) (hnn : namesNot kb rec o' = true) (hff : ∀ k, freshB kb o k = true → freshB kb o' k = false) (hc : CleanO kb o' st) : CleanO kb o' (merge kb o rec.ks st rec.out) := by
  obtain ⟨n1, n2, n3⟩ := namesNot_get hnn
  subst ho
  refine ⟨fun t x hx => ?_, fun k ob hg => ?_⟩
  · rw [get_merge_tmps] at hx
    by_cases hd : rec.o.dst = some t
    · rw [if_pos hd] at hx
      cases hg : get rec.out.tmps t with
      | none => rw [hg] at hx; cases hx
      | some y =>
        rw [hg] at hx
        simp only [Option.map_some, Option.some.injEq] at hx
        subst hx
        exact n2 t y hd hg
    · rw [if_neg hd] at hx
      exact hc.1 t x hx
  · rw [get_merge] at hg
    split at hg
    · rename_i hs
      refine ⟨?_, n3 hs.1 k ob hg⟩
      have := hs.2
      unfold selB at this
      simp only [Bool.or_eq_true, memB_iff] at this
      rcases this with q | q
      · exact n1 k q
      · exact hff k q
    · exact hc.2 k ob hg
theorem noW_merge {o : Oper} {ks : List Nat} {out : St} (hn : NoW st) : NoW (merge kb o ks st out) := by
  intro t x hx s b y he
  rw [get_merge_tmps] at hx
  by_cases hd : o.dst = some t
  · rw [if_pos hd] at hx
    cases hg : get out.tmps t with
    | none => rw [hg] at hx; cases hx
    | some z =>
      rw [hg] at hx
      simp only [Option.map_some, Option.some.injEq] at hx
      subst he
      cases z <;> simp [untag] at hx
  · rw [if_neg hd] at hx
    exact hn t x hx s b y he
theorem mem_bindsOn {d : Nat} : ∀ {l : List Edge}, d ∈ bindsOn l ↔ ∃ e ∈ l, Region.binds .any e = true ∧ e.on = d
  | [] => by simp [bindsOn]
  | e :: r => by
    simp only [bindsOn]
    cases hb : Region.binds .any e with
    | true =>
      simp only [cond_true, List.mem_cons, mem_bindsOn (l := r)]
      constructor
      · rintro (h | ⟨e', h1, h2⟩)
        · exact ⟨e, .inl rfl, hb, h.symm⟩
        · exact ⟨e', .inr h1, h2⟩
      · rintro ⟨e', rfl | h1, h2, h3⟩
        · exact .inl h3.symm
        · exact .inr ⟨e', h1, h2, h3⟩
    | false =>
      simp only [cond_false, List.mem_cons, mem_bindsOn (l := r)]
      constructor
      · rintro ⟨e', h1, h2⟩; exact ⟨e', .inr h1, h2⟩
      · rintro ⟨e', rfl | h1, h2, h3⟩
        · rw [hb] at h2; cases h2
        · exact ⟨e', h1, h2, h3⟩
theorem mem_ready {ops : Array Oper} {listed : Array Bool} {i : Nat} : i ∈ Region.ready .any ops listed ↔ i < ops.size ∧ listed.getD i true = false ∧ ∃ o, ops[i]? = some o ∧ ∀ d ∈ directs o, listed.getD d false = true := by
  unfold Region.ready
  simp only [List.mem_filter, List.mem_range, Bool.and_eq_true, Bool.not_eq_true']
  constructor
  · rintro ⟨h1, h2, h3⟩
    refine ⟨h1, h2, ?_⟩
    cases ho : ops[i]? with
    | none => rw [ho] at h3; simp at h3
    | some o =>
      rw [ho] at h3
      simp only [Option.map_some, Option.getD_some, Array.all_eq_true'] at h3
      refine ⟨o, rfl, fun d hd => ?_⟩
      obtain ⟨e, h4, h5, h6⟩ := mem_bindsOn.1 hd
      have := h3 e (by simpa using h4)
      rw [h5] at this
      simpa [h6] using this
  · rintro ⟨h1, h2, o, ho, h3⟩
    refine ⟨h1, h2, ?_⟩
    rw [ho]
    simp only [Option.map_some, Option.getD_some, Array.all_eq_true']
    intro e he
    cases hb : Region.binds .any e with
    | false => simp
    | true =>
      have := h3 e.on (mem_bindsOn.2 ⟨e, by simpa using he, hb, rfl⟩)
      simp [this]
/-- What is known of the region's listed run. -/
structure Plan (P : Program) (cl : Oracle) (kb : Nat) (ops : Array Oper) (gs : List Nat) (rc : Nat → Rec) : Prop where
  topo : topoB 0 ops.toList = true
  op : ∀ (i : Nat) (o : Oper), ops[i]? = some o → (rc i).o = o
  ff : ∀ (i j : Nat) (p q : Oper), i < j → ops[i]? = some p → ops[j]? = some q → freshApart kb p q = true
  nn : ∀ (i j : Nat) (q : Oper), i < j → ops[j]? = some q → namesNot kb (rc i) q = true
  ap : ∀ (i j : Nat) (p q : Oper), i < j → ops[i]? = some p → ops[j]? = some q → i ∈ (ancTab ops.toList []).getD j [] ∨ (apartS ops.toList p q = true ∧ apartK kb (rc i) (rc j) = true)
  full : ∀ (i : Nat), i < ops.size → fullMem (rc i).out.mem = true
theorem drawn_sound {R : Type} {cl : Oracle} (hcl : OracleOk P cl) {ops : Array Oper} {gs : List Nat} {rc : Nat → Rec} {k : St → Option R} {r : R} {Q : Exit → Act → World → Prop} (hF : ∀ k, F k → k < kb)
    (hd : ∀ o ∈ ops.toList, ∀ d, o.dst = some d → d < N) (hp : Plan P cl kb ops gs rc) {stF : St} (hk : k stF = some r) (hQ : ∀ a w, After P N n0 B M0 w0 F e0 k r a w → Q .normal a w) :
    ∀ (fuel : Nat) {rem : List Nat} {listed : Array Bool} {env : Env} {st : St} {a : Act} {w : World}, Rel P N n0 B M0 w0 F e0 env st a w → NoW st → (∀ j ∈ rem, ∀ o, ops[j]? = some o → CleanO kb o st) →
      RunIx P cl kb ops.toList gs rc rem st stF → rem.Pairwise (· < ·) → listed.size = ops.size → (∀ i, i ∈ rem ↔ i < ops.size ∧ listed.getD i true = false) →
      (∀ (i : Nat) (o : Oper), ops[i]? = some o → listed.getD i false = true → ∀ d ∈ directs o, listed.getD d false = true) → rem.length ≤ fuel → wpAny P .any ops Q fuel listed a w := by
  have hend : ∀ {rem : List Nat} {listed : Array Bool}, (∀ i, i ∈ rem ↔ i < ops.size ∧ listed.getD i true = false) → rem.Pairwise (· < ·) → listed.size = ops.size → Region.ready .any ops listed = [] → rem = [] := by
    intro rem listed hrem hpw hsz hready
    cases rem with
    | nil => rfl
    | cons x rr =>
      exfalso
      have hx := (hrem x).1 (by simp)
      have hox : ops[x]? = some ops[x] := Array.getElem?_eq_getElem hx.1
      have : x ∈ Region.ready .any ops listed := by
        refine mem_ready.2 ⟨hx.1, hx.2, _, hox, fun d hdd => ?_⟩
        have hlt := topoB_get hp.topo x ops[x] (by simpa using hox) d hdd
        rw [Nat.zero_add] at hlt
        have hnm : d ∉ x :: rr := by
          intro hm
          rcases List.mem_cons.1 hm with rfl | hm
          · omega
          · have := (List.pairwise_cons.1 hpw).1 d hm; omega
        have hds : d < listed.size := by omega
        cases hl : listed[d] with
        | true => simp [Array.getD_eq_getD_getElem?, Array.getElem?_eq_getElem hds, hl]
        | false => exact absurd ((hrem d).2 ⟨by omega, by simp [Array.getD_eq_getD_getElem?, Array.getElem?_eq_getElem hds, hl]⟩) hnm
      rw [hready] at this
      simp at this
  intro fuel
  induction fuel with
  | zero =>
    intro rem listed env st a w h hn hc hrun hpw hsz hrem hclosed hlen
    have hnil : rem = [] := List.eq_nil_of_length_eq_zero (by omega)
    subst hnil
    refine ⟨?_, hQ a w ⟨env, stF, h.eq hrun, hk⟩⟩
    cases hr : Region.ready .any ops listed with
    | nil => rfl
    | cons i l =>
      have : i ∈ Region.ready .any ops listed := by rw [hr]; simp
      obtain ⟨h1, h2, _⟩ := mem_ready.1 this
      have := (hrem i).2 ⟨h1, h2⟩
      simp at this
  | succ fuel ih =>
    intro rem listed env st a w h hn hc hrun hpw hsz hrem hclosed hlen
    refine ⟨fun hready => ?_, fun i hi => ?_⟩
    · have := hend hrem hpw hsz hready
      subst this
      exact hQ a w ⟨env, stF, h.eq hrun, hk⟩
    · obtain ⟨hi1, hi2, o, ho, hdir⟩ := mem_ready.1 hi
      have hirem := (hrem i).2 ⟨hi1, hi2⟩
      obtain ⟨A, Bl, hsplit⟩ := List.append_of_mem hirem
      subst hsplit
      obtain ⟨hpA, hpB, hpAB⟩ := List.pairwise_append.1 hpw
      have hanc := ancTab_listed (L := fun x => listed.getD x false = true) (all := ops.toList) (fun j oj hj hl => hclosed j oj (by simpa using hj) hl) (ops := ops.toList) (pre := []) (tab := []) rfl rfl (fun _ _ hlt => by simp at hlt) i o (by simpa using ho) hdir
      have hnl : ∀ x ∈ A, ¬ listed.getD x false = true := by
        intro x hx hl
        have := ((hrem x).1 (by simp [hx])).2
        have hxs : x < listed.size := by rw [hsz]; exact ((hrem x).1 (by simp [hx])).1
        simp only [Array.getD_eq_getD_getElem?, Array.getElem?_eq_getElem hxs, Option.getD_some] at this hl
        rw [this] at hl; cases hl
      have hapA : ∀ x ∈ A, ApartIx kb ops.toList rc x i := by
        intro x hx p q hpx hqi
        have hxi : x < i := hpAB x hx i (by simp)
        have hpx' : ops[x]? = some p := by simpa using hpx
        have hqi' : ops[i]? = some q := by simpa using hqi
        have e1 := hp.op x p hpx'
        have e2 := hp.op i q hqi'
        rcases hp.ap x i p q hxi hpx' hqi' with h1 | ⟨h1, h2⟩
        · exact absurd (hanc x h1) (hnl x hx)
        · have := apart_of (p := rc x) (q := rc i) (by rw [e1, e2]; exact hp.ff x i p q hxi hpx' hqi') (by rw [e1, e2]; exact h1) h2 (by rw [e2]; exact hp.nn x i q hxi hqi')
          rw [e1, e2] at this
          exact this
      have hrun' := hrun.front hapA
      obtain ⟨o', ho', hrec, hrest⟩ := hrun'
      have hoo : o' = o := by
        have : ops[i]? = some o' := by simpa using ho'
        rw [ho] at this
        exact (Option.some.inj this).symm
      subst hoo
      have hilt : i < listed.size := by rw [hsz]; exact hi1
      have hget : ∀ x dflt, (listed.setIfInBounds i true).getD x dflt = if x = i then true else listed.getD x dflt := by
        intro x dflt
        simp only [Array.getD_eq_getD_getElem?, Array.getElem?_setIfInBounds]
        by_cases hx : x = i
        · subst hx; simp [hilt]
        · rw [if_neg (Ne.symm hx), if_neg hx]
      have next : ∀ env' a' w', Rel P N n0 B M0 w0 F e0 env' (merge kb o' (rc i).ks st (rc i).out) a' w' → wpAny P .any ops Q fuel (listed.setIfInBounds i true) a' w' := by
        intro env' a' w' h'
        refine ih (rem := A ++ Bl) h' (noW_merge hn) ?_ hrest ?_ (by simpa using hsz) ?_ ?_ (by simp at hlen ⊢; omega)
        · intro j hj oj hoj
          have hjr : j ∈ A ++ i :: Bl := by
            rcases List.mem_append.1 hj with hj | hj
            · simp [hj]
            · simp [hj]
          have hcj := hc j hjr oj hoj
          rcases List.mem_append.1 hj with hj | hj
          · have hji : j < i := hpAB j hj i (by simp)
            have hap := hapA j hj oj o' (by simpa using hoj) ho'
            have hapk : namesNot kb (rc i) oj = true := by
              rcases hp.ap j i oj o' hji hoj ho with h1 | ⟨_, h2⟩
              · exact absurd (hanc j h1) (hnl j hj)
              · unfold apartK at h2
                cases hv : isVal (rc j).o && isVal (rc i).o with
                | true =>
                  rw [hp.op j oj hoj] at hv
                  simp only [Bool.and_eq_true] at hv
                  unfold namesNot
                  rw [hv.1]
                  rfl
                | false =>
                  rw [hv, cond_false rfl] at h2
                  simp only [Bool.and_eq_true] at h2
                  rw [← hp.op j oj hoj]
                  exact h2.2
            exact keysAll_merge (hp.op i o' ho) hapk hap.symm.ff hcj
          · have hij : i < j := (List.pairwise_cons.1 hpB).1 j hj
            exact keysAll_merge (hp.op i o' ho) (hp.nn i j oj hij hoj) (freshApart_get (hp.ff i j o' oj hij ho hoj)) hcj
        · refine List.pairwise_append.2 ⟨hpA, (List.pairwise_cons.1 hpB).2, fun x hx y hy => hpAB x hx y (by simp [hy])⟩
        · intro x
          rw [hget]
          have hx := hrem x
          constructor
          · intro hm
            have hxi : x ≠ i := by
              rintro rfl
              rcases List.mem_append.1 hm with hm | hm
              · have := hpAB x hm x (by simp); omega
              · have := (List.pairwise_cons.1 hpB).1 x hm; omega
            rw [if_neg hxi]
            refine hx.1 ?_
            rcases List.mem_append.1 hm with hm | hm <;> simp [hm]
          · rintro ⟨h1, h2⟩
            by_cases hxi : x = i
            · rw [if_pos hxi] at h2; cases h2
            · rw [if_neg hxi] at h2
              have := hx.2 ⟨h1, h2⟩
              simp only [List.mem_append, List.mem_cons] at this ⊢
              rcases this with h3 | h3 | h3
              · exact .inl h3
              · exact absurd h3 hxi
              · exact .inr h3
        · intro x ox hox hl d hdd
          rw [hget] at hl ⊢
          by_cases hdi : d = i
          · rw [if_pos hdi]
          · rw [if_neg hdi]
            by_cases hxi : x = i
            · subst hxi
              rw [ho] at hox
              cases hox
              exact hdir d hdd
            · rw [if_neg hxi] at hl
              exact hclosed x ox hox hl d hdd
      have hs := step_sound (Q := Q) hcl (K := wpAny P .any ops Q fuel (listed.setIfInBounds i true)) (fun k hk => by
        cases hb : freshB kb o' k with
        | false => rfl
        | true =>
          have h1 := freshB_le hb
          have h2 := hF k hk
          omega) h hn (hc i (by simp) o' ho) (hd o' (by
            have := Array.mem_of_getElem? ho
            simpa using this)) hrec (fullMem_get (hp.full i hi1)) next
      unfold wpOp
      rw [ho]
      simp only
      split
      · rename_i hw
        rw [if_pos hw] at hs
        exact .inl hs
      · rename_i hw
        rw [if_neg hw] at hs
        exact hs
theorem drawSound {cl : Oracle} (hm : P.follows .mixedOrders = true) (hcl : OracleOk P cl) : DrawSound P cl := by
  intro R N n0 kb F B M0 w0 e0 env st a w id ops k r Q hF h hd hk hQ
  unfold drawOps at hk
  cases hs : staticOk kb ops.toList with
  | false => rw [hs] at hk; cases hk
  | true =>
    rw [hs, cond_true rfl] at hk
    obtain ⟨rl, stF, q1, q2, q3⟩ := drawRun_get hk
    rw [List.nil_append] at q2
    cases hdy : dynOk kb ops.toList rl with
    | false => rw [hdy] at q2; cases q2
    | true =>
      rw [hdy, cond_true rfl] at q2
      let rc : Nat → Rec := fun i => rl.getD i ⟨default, [], ⟨[], []⟩⟩
      have hrc : ∀ (i : Nat) (p : Rec), rl[i]? = some p → rc i = p := by
        intro i p hp
        show rl.getD i _ = p
        rw [List.getD_eq_getElem?_getD, hp]
        rfl
      obtain ⟨q4, q5⟩ := q3 [] rc rfl (fun i p hp => by simpa using hrc i p hp)
      have hl : ∀ (i : Nat), i < ops.size → rl[i]? = some (rc i) := by
        intro i hi
        have : i < rl.length := by rw [q1]; simpa using hi
        have h1 := List.getElem?_eq_getElem this
        rw [h1, hrc i _ h1]
      have hlt : ∀ (i : Nat) (o : Oper), ops[i]? = some o → i < ops.size := fun i o ho => (Array.getElem?_eq_some_iff.1 ho).1
      unfold staticOk at hs
      simp only [Bool.and_eq_true] at hs
      unfold dynOk at hdy
      simp only [Bool.and_eq_true] at hdy
      have hop : ∀ (i : Nat) (o : Oper), ops[i]? = some o → (rc i).o = o := fun i o ho => q5 i (rc i) o (hl i (hlt i o ho)) (by simpa using ho)
      have hst : ∀ (i j : Nat) (p q : Oper), i < j → ops[i]? = some p → ops[j]? = some q → freshApart kb p q = true ∧ (i ∈ (ancTab ops.toList []).getD j [] ∨ apartS ops.toList p q = true) := by
        intro i j p q hij hp hq
        have := allPairs_get hs.2 i j p q hij (by simpa using hp) (by simpa using hq)
        simp only [Nat.zero_add, Bool.and_eq_true, Bool.or_eq_true, memB_iff] at this
        exact this
      have hdn : ∀ (i j : Nat), i < j → j < ops.size → namesNot kb (rc i) (rc j).o = true ∧ (i ∈ (ancTab ops.toList []).getD j [] ∨ apartK kb (rc i) (rc j) = true) := by
        intro i j hij hj
        have := allPairs_get hdy.1 i j (rc i) (rc j) hij (hl i (by omega)) (hl j hj)
        simp only [Nat.zero_add, Bool.and_eq_true, Bool.or_eq_true, memB_iff] at this
        exact this
      have hplan : Plan P cl kb ops (guardSlots ops.toList ops.toList) rc := by
        refine ⟨hs.1, hop, fun i j p q hij hp hq => (hst i j p q hij hp hq).1, ?_, ?_, fun i hi => fullRecs_get hdy.2 i (rc i) (hl i hi)⟩
        · intro i j q hij hq
          have := (hdn i j hij (hlt j q hq)).1
          rw [hop j q hq] at this
          exact this
        · intro i j p q hij hp hq
          rcases (hst i j p q hij hp hq).2 with h1 | h1
          · exact .inl h1
          · exact (hdn i j hij (hlt j q hq)).2.imp (fun h => h) fun h2 => ⟨h1, h2⟩
      refine wp_region_any hm ?_
      have hrange : (List.range ops.toList.length).map (([] : List Oper).length + ·) = List.range ops.size := by simp
      rw [hrange] at q4
      refine drawn_sound hcl hF hd hplan q2 hQ ops.size (rem := List.range ops.size) (clean_rel h _ _) (clean_noW _) ?_ q4 List.pairwise_lt_range (by simp) ?_ ?_ (by simp)
      · intro j _ o ho
        refine clean_cleanO fun k hk => freshAny_get hk o ?_
        have := Array.mem_of_getElem? ho
        simpa using this
      · intro i
        simp only [List.mem_range, Array.getD_eq_getD_getElem?]
        constructor
        · intro hi; exact ⟨hi, by simp [hi]⟩
        · exact fun hi => hi.1
      · intro i o ho hl' 
        have hi := hlt i o ho
        simp [Array.getD_eq_getD_getElem?, hi] at hl'
end
end Go.AM
