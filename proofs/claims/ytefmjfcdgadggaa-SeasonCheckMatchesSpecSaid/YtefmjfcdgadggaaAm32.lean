/- The abstract machine: regions whose order is drawn: every order leaves the same. -/
import Derived.Test.YtefmjfcdgadggaaAm31
set_option linter.all false
namespace Go.AM
open Go

/-! ### States that tell the same -/
def StEq (st st' : St) : Prop := (∀ t, get st.tmps t = get st'.tmps t) ∧ ∀ k, get st.mem k = get st'.mem k
theorem StEq.refl (st : St) : StEq st st := ⟨fun _ => rfl, fun _ => rfl⟩
theorem StEq.symm {st st' : St} (h : StEq st st') : StEq st' st := ⟨fun t => (h.1 t).symm, fun k => (h.2 k).symm⟩
theorem StEq.trans {st st' st'' : St} (h : StEq st st') (h' : StEq st' st'') : StEq st st'' := ⟨fun t => (h.1 t).trans (h'.1 t), fun k => (h.2 k).trans (h'.2 k)⟩
theorem pickAL_congr {α : Type} {l l' : AL α} : ∀ {ks : List Nat}, (∀ k ∈ ks, get l k = get l' k) → pickAL l ks = pickAL l' ks
  | [], _ => rfl
  | k :: r, h => by
    simp only [pickAL]
    rw [h k (by simp), pickAL_congr (ks := r) fun k' hk' => h k' (by simp [hk'])]
theorem slotKeys_congr {l l' : AL V} : ∀ {ts : List Nat}, (∀ t ∈ ts, get l t = get l' t) → slotKeys l ts = slotKeys l' ts
  | [], _ => rfl
  | t :: r, h => by
    simp only [slotKeys]
    rw [h t (by simp), slotKeys_congr (ts := r) fun k' hk' => h k' (by simp [hk'])]
theorem reach_acc {mem : AL Obj} {deep : Bool} : ∀ {n : Nat} {todo acc ks : List Nat}, reach mem deep n todo acc = some ks → ∀ k ∈ acc, k ∈ ks
  | 0, _, _, _, h => by cases h
  | n + 1, [], acc, ks, h => by simp only [reach, Option.some.injEq] at h; subst h; exact fun k hk => hk
  | n + 1, x :: r, acc, ks, h => by
    simp only [reach] at h
    intro k hk
    cases hb : memB x acc with
    | true => rw [hb] at h; exact reach_acc h k hk
    | false => rw [hb] at h; exact reach_acc h k (by simp [hk])
theorem reach_congr {mem mem' : AL Obj} {deep : Bool} : ∀ {n : Nat} {todo acc ks : List Nat}, reach mem deep n todo acc = some ks → (∀ k ∈ ks, get mem k = get mem' k) → reach mem' deep n todo acc = some ks
  | 0, _, _, _, h, _ => by cases h
  | n + 1, [], acc, ks, h, _ => h
  | n + 1, x :: r, acc, ks, h, hk => by
    simp only [reach] at h ⊢
    cases hb : memB x acc with
    | true => rw [hb] at h; exact reach_congr h hk
    | false =>
      rw [hb] at h
      simp only [cond_false] at h ⊢
      have hx : x ∈ ks := reach_acc h x (by simp)
      have : keysAt mem' x = keysAt mem x := by unfold keysAt; rw [hk x hx]
      rw [this]
      exact reach_congr h hk
theorem get_merge {kb : Nat} {o : Oper} {ks : List Nat} {st out : St} {k : Nat} : get (merge kb o ks st out).mem k = if isVal o = false ∧ selB kb o ks k = true then get out.mem k else get st.mem k := by
  cases hv : isVal o with
  | true => rw [merge_mem_val hv]; simp
  | false => rw [get_merge_mem hv]; simp
theorem merge_congr {kb : Nat} {o : Oper} {ks : List Nat} {st st' out : St} (h : StEq st st') : StEq (merge kb o ks st out) (merge kb o ks st' out) := by
  refine ⟨fun t => ?_, fun k => ?_⟩
  · rw [get_merge_tmps, get_merge_tmps, h.1]
  · rw [get_merge, get_merge, h.2]

/-! ### Two operations that do not meet -/
structure Apart (kb : Nat) (ops : List Oper) (p q : Oper) (kp kq : List Nat) : Prop where
  pq : ∀ d, p.dst = some d → d ∉ looks ops q
  qp : ∀ d, q.dst = some d → d ∉ looks ops p
  dd : ∀ d, p.dst = some d → q.dst ≠ some d
  ks : (isVal p = true ∧ isVal q = true) ∨ ∀ k ∈ kp, k ∉ kq
  fq : ∀ k ∈ kp, freshB kb q k = false
  fp : ∀ k ∈ kq, freshB kb p k = false
  ff : ∀ k, freshB kb p k = true → freshB kb q k = false
section
variable {P : Program} {cl : Oracle} {kb : Nat} {ops : List Oper} {gs : List Nat}
theorem Apart.symm {p q : Oper} {kp kq : List Nat} (h : Apart kb ops p q kp kq) : Apart kb ops q p kq kp :=
  ⟨h.qp, h.pq, fun d hq hp => h.dd d hp hq, h.ks.imp (fun x => ⟨x.2, x.1⟩) fun x k hk hk' => x k hk' hk, h.fp, h.fq, fun k hq => by
    cases hp : freshB kb p k with
    | false => rfl
    | true => rw [h.ff k hp] at hq; cases hq⟩
theorem RecOk.congr {o : Oper} {st st' : St} {rec : Rec} (h : RecOk P cl kb ops gs o st rec) (ht : ∀ t ∈ looks ops o, get st.tmps t = get st'.tmps t) (hm : ∀ k ∈ rec.ks, get st.mem k = get st'.mem k) : RecOk P cl kb ops gs o st' rec := by
  refine ⟨h.op, ?_, ?_⟩
  · rw [← slotKeys_congr ht]; exact reach_congr h.ks hm
  · have : mini ops o st' rec.ks = mini ops o st rec.ks := by unfold mini; rw [pickAL_congr ht, pickAL_congr hm]
    rw [this]; exact h.out
theorem Apart.still {p q : Oper} {kp kq : List Nat} (h : Apart kb ops p q kp kq) (st out : St) :
    (∀ t ∈ looks ops q, get (merge kb p kp st out).tmps t = get st.tmps t) ∧ ∀ k ∈ kq, get (merge kb p kp st out).mem k = get st.mem k := by
  refine ⟨fun t ht => ?_, fun k hk => ?_⟩
  · rw [get_merge_tmps, if_neg fun e => h.pq t e ht]
  · rw [get_merge]
    split
    · rename_i hs
      obtain ⟨h1, h2⟩ := hs
      unfold selB at h2
      rw [h.fp k hk, Bool.or_false] at h2
      rcases h.ks with h3 | h3
      · rw [h3.1] at h1; cases h1
      · exact absurd hk (h3 k (memB_iff.1 h2))
    · rfl
theorem Apart.swap {p q : Oper} {kp kq : List Nat} (h : Apart kb ops p q kp kq) (st op oq : St) : StEq (merge kb q kq (merge kb p kp st op) oq) (merge kb p kp (merge kb q kq st oq) op) := by
  refine ⟨fun t => ?_, fun k => ?_⟩
  · simp only [get_merge_tmps]
    by_cases hp : p.dst = some t
    · rw [if_pos hp, if_pos hp, if_neg (h.dd t hp)]
    · rw [if_neg hp, if_neg hp]
  · simp only [get_merge]
    by_cases hp : isVal p = false ∧ selB kb p kp k = true
    · rw [if_pos hp, if_pos hp, if_neg ?_]
      rintro ⟨h1, h2⟩
      obtain ⟨h3, h4⟩ := hp
      unfold selB at h2 h4
      simp only [Bool.or_eq_true, memB_iff] at h2 h4
      rcases h4 with h4 | h4
      · rcases h2 with h2 | h2
        · rcases h.ks with h5 | h5
          · rw [h5.1] at h3; cases h3
          · exact h5 k h4 h2
        · rw [h.fq k h4] at h2; cases h2
      · rcases h2 with h2 | h2
        · rw [h.fp k h2] at h4; cases h4
        · rw [h.ff k h4] at h2; cases h2
    · rw [if_neg hp, if_neg hp]

/-! ### A whole region -/
/-- The operations of these numbers, one behind the other, each with what it leaves. -/
def RunIx (P : Program) (cl : Oracle) (kb : Nat) (ops : List Oper) (gs : List Nat) (rc : Nat → Rec) : List Nat → St → St → Prop
  | [], st, stF => StEq st stF
  | i :: r, st, stF => ∃ o, ops[i]? = some o ∧ RecOk P cl kb ops gs o st (rc i) ∧ RunIx P cl kb ops gs rc r (merge kb o (rc i).ks st (rc i).out) stF
def ApartIx (kb : Nat) (ops : List Oper) (rc : Nat → Rec) (i j : Nat) : Prop := ∀ p q, ops[i]? = some p → ops[j]? = some q → Apart kb ops p q (rc i).ks (rc j).ks
variable {rc : Nat → Rec}
theorem RunIx.congr : ∀ {l : List Nat} {st st' stF : St}, StEq st st' → RunIx P cl kb ops gs rc l st stF → RunIx P cl kb ops gs rc l st' stF
  | [], _, _, _, h, hr => h.symm.trans hr
  | _ :: _, _, _, _, h, ⟨o, h1, h2, h3⟩ => ⟨o, h1, h2.congr (fun t _ => h.1 t) (fun k _ => h.2 k), RunIx.congr (merge_congr h) h3⟩
theorem RunIx.swap {i j : Nat} {l : List Nat} {st stF : St} (ha : ApartIx kb ops rc i j) (h : RunIx P cl kb ops gs rc (i :: j :: l) st stF) : RunIx P cl kb ops gs rc (j :: i :: l) st stF := by
  obtain ⟨p, p1, p2, q, q1, q2, h3⟩ := h
  have hap := ha p q p1 q1
  obtain ⟨s1, s2⟩ := hap.still st (rc i).out
  obtain ⟨s3, s4⟩ := hap.symm.still st (rc j).out
  exact ⟨q, q1, q2.congr s1 s2, p, p1, p2.congr (fun t ht => (s3 t ht).symm) (fun k hk => (s4 k hk).symm), RunIx.congr (hap.swap st _ _) h3⟩
theorem RunIx.front {i : Nat} {B : List Nat} {stF : St} : ∀ {A : List Nat} {st : St}, (∀ x ∈ A, ApartIx kb ops rc x i) → RunIx P cl kb ops gs rc (A ++ i :: B) st stF → RunIx P cl kb ops gs rc (i :: (A ++ B)) st stF
  | [], _, _, h => h
  | x :: A, st, ha, ⟨p, p1, p2, h3⟩ => RunIx.swap (ha x (by simp)) ⟨p, p1, p2, RunIx.front (fun y hy => ha y (by simp [hy])) h3⟩

/-! ### What the checks say -/
theorem allAfter_get {α : Type} {f : Nat → α → Bool} : ∀ {j0 : Nat} {l : List α}, allAfter f j0 l = true → ∀ j q, l[j]? = some q → f (j0 + j) q = true
  | _, [], _, j, q, hq => by simp at hq
  | j0, x :: r, h, j, q, hq => by
    simp only [allAfter, Bool.and_eq_true] at h
    cases j with
    | zero => simp only [List.getElem?_cons_zero, Option.some.injEq] at hq; subst hq; exact h.1
    | succ j => rw [show j0 + (j + 1) = j0 + 1 + j by omega]; exact allAfter_get h.2 j q (by simpa using hq)
theorem allPairs_get {α : Type} {f : Nat → α → Nat → α → Bool} : ∀ {i0 : Nat} {l : List α}, allPairs f i0 l = true → ∀ i j p q, i < j → l[i]? = some p → l[j]? = some q → f (i0 + i) p (i0 + j) q = true
  | _, [], _, i, j, p, q, _, hp, _ => by simp at hp
  | i0, x :: r, h, i, j, p, q, hij, hp, hq => by
    simp only [allPairs, Bool.and_eq_true] at h
    cases j with
    | zero => omega
    | succ j =>
      cases i with
      | zero =>
        simp only [List.getElem?_cons_zero, Option.some.injEq] at hp
        subst hp
        have := allAfter_get h.1 j q (by simpa using hq)
        rw [show i0 + (j + 1) = i0 + 1 + j by omega]
        exact this
      | succ i =>
        rw [show i0 + (i + 1) = i0 + 1 + i by omega, show i0 + (j + 1) = i0 + 1 + j by omega]
        exact allPairs_get h.2 i j p q (by omega) (by simpa using hp) (by simpa using hq)
theorem topoB_get : ∀ {i0 : Nat} {l : List Oper}, topoB i0 l = true → ∀ i o, l[i]? = some o → ∀ d ∈ directs o, d < i0 + i
  | _, [], _, i, o, ho => by simp at ho
  | i0, x :: r, h, i, o, ho => by
    simp only [topoB, Bool.and_eq_true, List.all_eq_true] at h
    cases i with
    | zero =>
      simp only [List.getElem?_cons_zero, Option.some.injEq] at ho
      subst ho
      exact fun d hd => Nat.le_of_ble_eq_true (h.1 d hd)
    | succ i => rw [show i0 + (i + 1) = i0 + 1 + i by omega]; exact topoB_get h.2 i o (by simpa using ho)
theorem mem_union {k : Nat} : ∀ {l xs : List Nat}, k ∈ union xs l → k ∈ xs ∨ k ∈ l
  | [], xs, h => .inl h
  | y :: r, xs, h => by
    simp only [union] at h
    cases hb : memB y xs with
    | true => rw [hb] at h; exact (mem_union h).imp id fun h => by simp [h]
    | false =>
      rw [hb] at h
      rcases mem_union h with h | h
      · rcases List.mem_cons.1 h with h | h
        · exact .inr (by simp [h])
        · exact .inl h
      · exact .inr (by simp [h])
theorem mem_unions {tab : List (List Nat)} {k : Nat} : ∀ {l acc : List Nat}, k ∈ unions tab l acc → k ∈ acc ∨ ∃ d ∈ l, k = d ∨ k ∈ tab.getD d []
  | [], acc, h => .inl h
  | d :: r, acc, h => by
    simp only [unions] at h
    rcases mem_unions h with h | ⟨d', h1, h2⟩
    · rcases mem_union h with h | h
      · rcases mem_union h with h | h
        · exact .inl h
        · exact .inr ⟨d, by simp, .inl (by simpa using h)⟩
      · exact .inr ⟨d, by simp, .inr h⟩
    · exact .inr ⟨d', by simp [h1], h2⟩
/-- What must come ahead of an operation that is ready has come. -/
theorem ancTab_listed {L : Nat → Prop} {all : List Oper} (hcl : ∀ i o, all[i]? = some o → L i → ∀ d ∈ directs o, L d) : ∀ {ops pre : List Oper} {tab : List (List Nat)}, all = pre ++ ops → tab.length = pre.length →
    (∀ i o, i < tab.length → all[i]? = some o → (∀ d ∈ directs o, L d) → ∀ x ∈ tab.getD i [], L x) →
    ∀ i o, all[i]? = some o → (∀ d ∈ directs o, L d) → ∀ x ∈ (ancTab ops tab).getD i [], L x
  | [], pre, tab, he, hl, h, i, o, ho, hd => by
    have hlt := (List.getElem?_eq_some_iff.1 ho).1
    exact h i o (by rw [he] at hlt; simp at hlt; omega) ho hd
  | o' :: r, pre, tab, he, hl, h, i, o, ho, hd => by
    simp only [ancTab]
    refine ancTab_listed hcl (pre := pre ++ [o']) (by rw [he]; simp) (by simp [hl]) ?_ i o ho hd
    intro j oj hj hoj hdj x hx
    by_cases hjl : j < tab.length
    · rw [List.getD_eq_getElem?_getD, List.getElem?_append_left hjl, ← List.getD_eq_getElem?_getD] at hx
      exact h j oj hjl hoj hdj x hx
    · have hje : j = tab.length := by simp at hj; omega
      subst hje
      rw [List.getD_eq_getElem?_getD, List.getElem?_append_right (Nat.le_refl _)] at hx
      simp only [Nat.sub_self, List.getElem?_cons_zero, Option.getD_some] at hx
      have hoe : oj = o' := by
        rw [he, hl] at hoj
        rw [List.getElem?_append_right (Nat.le_refl _)] at hoj
        simpa using hoj.symm
      subst hoe
      rcases mem_unions hx with hx | ⟨d, h1, h2⟩
      · simp at hx
      · rcases h2 with rfl | h2
        · exact hdj _ h1
        · by_cases hdl : d < tab.length
          · obtain ⟨od, hod⟩ : ∃ od, all[d]? = some od := by
              have : d < all.length := by rw [he]; simp; omega
              exact ⟨_, List.getElem?_eq_getElem this⟩
            exact h d od hdl hod (hcl d od hod (hdj d h1)) x h2
          · rw [List.getD_eq_getElem?_getD, List.getElem?_eq_none (by omega)] at h2
            simp at h2
theorem noneFresh_get {o : Oper} : ∀ {l : List Nat}, noneFresh kb o l = true → ∀ k ∈ l, freshB kb o k = false
  | [], _, k, hk => by simp at hk
  | x :: r, h, k, hk => by
    simp only [noneFresh, Bool.and_eq_true, Bool.not_eq_true'] at h
    rcases List.mem_cons.1 hk with rfl | hk
    · exact h.1
    · exact noneFresh_get h.2 k hk
theorem disjB_get : ∀ {l l' : List Nat}, disjB l l' = true → ∀ k ∈ l, k ∉ l'
  | [], _, _, k, hk => by simp at hk
  | x :: r, l', h, k, hk => by
    simp only [disjB, Bool.and_eq_true, Bool.not_eq_true'] at h
    rcases List.mem_cons.1 hk with rfl | hk
    · intro hm; rw [memB_iff.2 hm] at h; cases h.1
    · exact disjB_get h.2 k hk
theorem memNames_get {o : Oper} : ∀ {l : AL Obj}, memNames kb o l = true → ∀ k ob, get l k = some ob → ∀ k' ∈ keysOfO ob, freshB kb o k' = false
  | l, h, k, ob, hg => by
    have hm := get_mem hg
    clear hg
    induction l with
    | nil => simp at hm
    | cons x r ih =>
      obtain ⟨j, o'⟩ := x
      simp only [memNames, Bool.and_eq_true] at h
      rcases List.mem_cons.1 hm with hm | hm
      · simp only [Prod.mk.injEq] at hm
        rw [hm.2]
        exact noneFresh_get h.1
      · exact ih h.2 hm
theorem fullMem_get : ∀ {l : AL Obj}, fullMem l = true → ∀ k ob, get l k = some ob → fullO ob = true
  | l, h, k, ob, hg => by
    have hm := get_mem hg
    clear hg
    induction l with
    | nil => simp at hm
    | cons x r ih =>
      obtain ⟨j, o'⟩ := x
      simp only [fullMem, Bool.and_eq_true] at h
      rcases List.mem_cons.1 hm with hm | hm
      · simp only [Prod.mk.injEq] at hm
        rw [hm.2]
        exact h.1
      · exact ih h.2 hm
theorem fullRecs_get : ∀ {l : List Rec}, fullRecs l = true → ∀ (i : Nat) (p : Rec), l[i]? = some p → fullMem p.out.mem = true
  | [], _, i, p, hp => by simp at hp
  | x :: r, h, i, p, hp => by
    simp only [fullRecs, Bool.and_eq_true] at h
    cases i with
    | zero => simp only [List.getElem?_cons_zero, Option.some.injEq] at hp; subst hp; exact h.1
    | succ i => exact fullRecs_get h.2 i p (by simpa using hp)
theorem freshB_range {o : Oper} {k : Nat} (h : freshB kb o k = true) : isVal o = false ∧ freshLo kb o ≤ k ∧ k < freshHi kb o := by
  unfold freshB at h
  cases hv : isVal o with
  | true => rw [hv] at h; cases h
  | false =>
    rw [hv, cond_false rfl] at h
    refine ⟨rfl, ?_⟩
    unfold freshLo freshHi
    cases he : isEnter o with
    | true =>
      rw [he, cond_true rfl, Bool.and_eq_true] at h
      simp only [cond_true]
      exact ⟨Nat.le_of_ble_eq_true h.1, Nat.le_of_ble_eq_true h.2⟩
    | false =>
      rw [he, cond_false rfl] at h
      simp only [cond_false]
      cases hd : o.dst with
      | none => rw [hd] at h; cases h
      | some d =>
        rw [hd] at h
        have := Nat.eq_of_beq_eq_true h
        exact ⟨by show kb + d ≤ k; omega, by show k < kb + d + 1; omega⟩
theorem freshApart_get {p q : Oper} (h : freshApart kb p q = true) : ∀ k, freshB kb p k = true → freshB kb q k = false := by
  intro k hp
  cases hq : freshB kb q k with
  | false => rfl
  | true =>
    obtain ⟨p1, p2, p3⟩ := freshB_range hp
    obtain ⟨q1, q2, q3⟩ := freshB_range hq
    unfold freshApart at h
    rw [p1, q1] at h
    simp only [Bool.false_or, Bool.or_eq_true] at h
    rcases h with h | h
    · have := Nat.le_of_ble_eq_true h; omega
    · have := Nat.le_of_ble_eq_true h; omega
theorem dstOff_get {d : Option Nat} {ts : List Nat} (h : dstOff d ts = true) : ∀ x, d = some x → x ∉ ts := by
  intro x hx hm
  subst hx
  simp only [dstOff, memB_iff.2 hm] at h
  cases h
theorem namesNot_get {p : Rec} {q : Oper} (h : namesNot kb p q = true) : (∀ k ∈ p.ks, freshB kb q k = false) ∧
    (∀ d x, p.o.dst = some d → get p.out.tmps d = some x → ∀ k ∈ keysAll (untag x), freshB kb q k = false) ∧ (isVal p.o = false → ∀ k ob, get p.out.mem k = some ob → ∀ k' ∈ keysOfO ob, freshB kb q k' = false) := by
  unfold namesNot at h
  cases hv : isVal q with
  | true => exact ⟨fun k _ => freshB_val hv k, fun _ _ _ _ k _ => freshB_val hv k, fun _ _ _ _ k _ => freshB_val hv k⟩
  | false =>
    rw [hv, cond_false rfl] at h
    simp only [Bool.and_eq_true] at h
    obtain ⟨⟨h1, h2⟩, h3⟩ := h
    refine ⟨noneFresh_get h1, fun d x hd hx => ?_, fun hp k ob hg => ?_⟩
    · rw [hd] at h2
      simp only [hx] at h2
      exact noneFresh_get h2
    · rw [hp, cond_false rfl] at h3
      exact memNames_get h3 k ob hg
theorem apart_of {p q : Rec} (h1 : freshApart kb p.o q.o = true) (h2 : apartS ops p.o q.o = true) (h3 : apartK kb p q = true) (h4 : namesNot kb p q.o = true) : Apart kb ops p.o q.o p.ks q.ks := by
  unfold apartS at h2
  simp only [Bool.and_eq_true] at h2
  refine ⟨dstOff_get h2.1.1, dstOff_get h2.1.2, fun d hp hq => dstOff_get h2.2 d hp (by rw [hq]; simp), ?_, (namesNot_get h4).1, ?_, freshApart_get h1⟩
  · unfold apartK at h3
    cases hv : isVal p.o && isVal q.o with
    | true => exact .inl (by simpa using hv)
    | false =>
      rw [hv, cond_false rfl] at h3
      simp only [Bool.and_eq_true] at h3
      exact .inr (disjB_get h3.1.1)
  · unfold apartK at h3
    cases hv : isVal p.o && isVal q.o with
    | true => exact fun k _ => freshB_val (by simp at hv; exact hv.1) k
    | false =>
      rw [hv, cond_false rfl] at h3
      simp only [Bool.and_eq_true] at h3
      exact noneFresh_get h3.1.2
end
end Go.AM
