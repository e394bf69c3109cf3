/- The abstract machine: back from a call. -/
import Derived.Test.YtefmjfcdgadggaaAm22
set_option linter.all false
namespace Go.AM
open Go

/-! ### What a call's end leaves in the caller's memory -/
def invalsC (ks : List Nat) (c : C) : C := ks.foldl (fun c k => inval k c) c
def invalsV (ks : List Nat) (c : V) : V := ks.foldl (fun c k => invalV k c) c
def invalsO (ks : List Nat) (c : Obj) : Obj := ks.foldl (fun c k => invalO k c) c
theorem memB_iff {k : Nat} : ∀ {l : List Nat}, memB k l = true ↔ k ∈ l
  | [] => by simp [memB]
  | m :: r => by
    simp only [memB, beq_eq', List.mem_cons]
    by_cases h : m = k
    · simp [h]
    · rw [cond_false (by simpa using h), memB_iff]
      exact ⟨.inr, fun h' => h'.resolve_left (Ne.symm h)⟩
theorem mem_newKeys {n base key : Nat} : ∀ {l : AL Obj}, key ∈ newKeys n base l ↔ ∃ k o, (k, o) ∈ l ∧ n ≤ k ∧ key = base + k
  | [] => by simp [newKeys]
  | (k, o) :: r => by
    have ih := mem_newKeys (n := n) (base := base) (key := key) (l := r)
    simp only [newKeys]
    cases hb : Nat.ble n k with
    | true =>
      have hle := Nat.le_of_ble_eq_true hb
      simp only [cond_true, List.mem_cons, ih]
      constructor
      · rintro (h | ⟨k', o', h1, h2, h3⟩)
        · exact ⟨k, o, .inl rfl, hle, h⟩
        · exact ⟨k', o', .inr h1, h2, h3⟩
      · rintro ⟨k', o', h1 | h1, h2, h3⟩
        · simp only [Prod.mk.injEq] at h1; exact .inl (by rw [h3, h1.1])
        · exact .inr ⟨k', o', h1, h2, h3⟩
    | false =>
      have hlt : ¬ n ≤ k := fun hc => by rw [Nat.ble_eq_true_of_le hc] at hb; cases hb
      simp only [cond_false, ih]
      constructor
      · rintro ⟨k', o', h1, h2, h3⟩; exact ⟨k', o', by simp [h1], h2, h3⟩
      · rintro ⟨k', o', h1, h2, h3⟩
        rcases List.mem_cons.1 h1 with h1 | h1
        · simp only [Prod.mk.injEq] at h1; omega
        · exact ⟨k', o', h1, h2, h3⟩
theorem get_mem {α : Type} {k : Nat} {x : α} : ∀ {l : AL α}, get l k = some x → (k, x) ∈ l
  | [], h => by cases h
  | (m, y) :: r, h => by
    simp only [get, beq_eq'] at h
    by_cases hk : m = k
    · rw [cond_true (by simpa using hk)] at h; simp only [Option.some.injEq] at h; simp [hk, h]
    · rw [cond_false (by simpa using hk)] at h; exact List.mem_cons_of_mem _ (get_mem h)
theorem mem_get {α : Type} {k : Nat} : ∀ {l : AL α} {x : α}, (k, x) ∈ l → ∃ y, get l k = some y
  | (m, y) :: r, x, h => by
    simp only [get, beq_eq']
    by_cases hk : m = k
    · exact ⟨y, cond_true (by simpa using hk)⟩
    · rw [cond_false (by simpa using hk)]
      rcases List.mem_cons.1 h with h | h
      · simp only [Prod.mk.injEq] at h; exact absurd h.1.symm hk
      · exact mem_get h
theorem invalAll_tmps : ∀ (ks : List Nat) (st : St) (t : Nat), get (invalAll ks st).tmps t = (get st.tmps t).map (invalsV ks)
  | [], st, t => by
    have : invalsV [] = id := rfl
    simp [invalAll, this]
  | k :: ks, st, t => by
    simp only [invalAll, invalAll_tmps ks, get_mapV, Option.map_map]
    rfl
theorem invalAll_mem : ∀ (ks : List Nat) (st : St) (t : Nat), get (invalAll ks st).mem t = if t ∈ ks then none else (get st.mem t).map (invalsO ks)
  | [], st, t => by
    have : invalsO [] = id := rfl
    simp [invalAll, this]
  | k :: ks, st, t => by
    simp only [invalAll, invalAll_mem ks, get_del, get_mapV]
    by_cases h : t ∈ ks
    · simp [h]
    · by_cases hk : t = k
      · subst hk; simp
      · simp only [h, hk, if_false, List.mem_cons, or_self, Option.map_map]; rfl
theorem setNew_get {acc : List Ref} {base : Nat} {mem : AL Obj} {key : Nat} : ∀ {memR : AL Obj}, get (setNew acc base memR mem) key =
    if key ∈ newKeys acc.length base memR then (get memR (key - base)).map (backO acc base) else get mem key
  | [] => by simp [setNew, newKeys]
  | (k, o) :: r => by
    have ih := setNew_get (acc := acc) (base := base) (mem := mem) (key := key) (memR := r)
    by_cases hle : acc.length ≤ k
    · have hb := Nat.ble_eq_true_of_le hle
      simp only [setNew, newKeys, hb, cond_true, get_set]
      by_cases hk : key = base + k
      · subst hk
        simp [get]
      · rw [if_neg hk, ih]
        by_cases hm : key ∈ newKeys acc.length base r
        · rw [if_pos hm, if_pos (by simp [hm])]
          obtain ⟨k', o', _, h2, h3⟩ := mem_newKeys.1 hm
          simp only [get, beq_eq']
          rw [cond_false (by simp; omega)]
        · rw [if_neg hm, if_neg (by simp [hk, hm])]
    · have hb : Nat.ble acc.length k = false := by
        cases hb : Nat.ble acc.length k with
        | false => rfl
        | true => exact absurd (Nat.le_of_ble_eq_true hb) hle
      simp only [setNew, newKeys, hb, cond_false, ih]
      by_cases hm : key ∈ newKeys acc.length base r
      · rw [if_pos hm, if_pos hm]
        obtain ⟨k', o', _, h2, h3⟩ := mem_newKeys.1 hm
        simp only [get, beq_eq']
        rw [cond_false (by simp; omega)]
      · rw [if_neg hm, if_neg hm]
/-- What lies at a key that a call handed back. -/
def BackAt (acc : List Ref) (base : Nat) (mem : AL Obj) (r : Ref) (o ob : Obj) : Prop :=
  (r.size = none ∧ ob = backO acc base o) ∨ ∃ n sub cs, r.size = some n ∧ o = .box sub ∧ sub.length = n ∧ get mem r.key = some (.box cs) ∧ ob = .box (splice cs r.off (sub.map (backC acc base)))
theorem backMem_get {acc : List Ref} {base : Nat} {memR : AL Obj} : ∀ {l : List Ref} {i0 : Nat} {mem mem2 : AL Obj}, Nodup l → backMem acc base memR l i0 mem = some mem2 → ∀ key ob, get mem2 key = some ob →
    (∃ j r o, l[j]? = some r ∧ key = r.key ∧ get memR (i0 + j) = some o ∧ BackAt acc base mem r o ob) ∨ ((∀ r ∈ l, r.key ≠ key) ∧ get mem key = some ob)
  | [], i0, mem, mem2, _, h, key, ob, hg => by
    simp only [backMem, Option.some.injEq] at h
    subst h
    exact .inr ⟨by simp, hg⟩
  | r :: rs, i0, mem, mem2, hn, h, key, ob, hg => by
    have later : ∀ (mem1 : AL Obj), (∀ k, k ≠ r.key → get mem1 k = get mem k) → backMem acc base memR rs (i0 + 1) mem1 = some mem2 →
        (∃ j r' o, (r :: rs)[j]? = some r' ∧ key = r'.key ∧ get memR (i0 + j) = some o ∧ BackAt acc base mem r' o ob) ∨ ((∀ r' ∈ rs, r'.key ≠ key) ∧ get mem1 key = some ob) := by
      intro mem1 h1 h2
      rcases backMem_get hn.2 h2 key ob hg with ⟨j, r', o, e1, e2, e3, e4⟩ | h3
      · refine .inl ⟨j + 1, r', o, by simpa using e1, e2, by rw [show i0 + (j + 1) = i0 + 1 + j by omega]; exact e3, ?_⟩
        rcases e4 with e4 | ⟨n, sub, cs, f1, f2, f3, f4, f5⟩
        · exact .inl e4
        · exact .inr ⟨n, sub, cs, f1, f2, f3, by rw [← h1 r'.key (hn.1 r' (List.mem_of_getElem? e1))]; exact f4, f5⟩
      · exact .inr h3
    simp only [backMem] at h
    split at h
    · rcases later _ (fun k hk => by rw [get_del, if_neg hk]) h with h1 | ⟨h1, h2⟩
      · exact .inl h1
      · rw [get_del] at h2
        by_cases hk : key = r.key
        · rw [if_pos hk] at h2; cases h2
        · rw [if_neg hk] at h2
          exact .inr ⟨fun r' hr' => (by rcases List.mem_cons.1 hr' with rfl | hr'
                                        · exact Ne.symm hk
                                        · exact h1 r' hr'), h2⟩
    · rename_i o ho
      have put : ∀ (X : Obj), BackAt acc base mem r o X → backMem acc base memR rs (i0 + 1) (set mem r.key X) = some mem2 →
          (∃ j r' o, (r :: rs)[j]? = some r' ∧ key = r'.key ∧ get memR (i0 + j) = some o ∧ BackAt acc base mem r' o ob) ∨ ((∀ r' ∈ r :: rs, r'.key ≠ key) ∧ get mem key = some ob) := by
        intro X hX hb
        rcases later _ (fun k hk => by rw [get_set, if_neg hk]) hb with h1 | ⟨h1, h2⟩
        · exact .inl h1
        · rw [get_set] at h2
          by_cases hk : key = r.key
          · rw [if_pos hk] at h2
            simp only [Option.some.injEq] at h2
            subst h2
            exact .inl ⟨0, r, o, by simp, hk, by simpa using ho, hX⟩
          · rw [if_neg hk] at h2
            exact .inr ⟨fun r' hr' => (by rcases List.mem_cons.1 hr' with rfl | hr'
                                          · exact Ne.symm hk
                                          · exact h1 r' hr'), h2⟩
      split at h
      · rename_i hs
        exact put _ (.inl ⟨hs, rfl⟩) h
      · rename_i n hs
        split at h
        · rename_i sub cs hcs
          cases hb : Nat.beq sub.length n with
          | false => rw [hb] at h; cases h
          | true =>
            rw [hb] at h
            exact put _ (.inr ⟨n, sub, cs, hs, rfl, Nat.eq_of_beq_eq_true hb, hcs, rfl⟩) h
        · cases h
theorem noClash_get {memR : AL Obj} {news : List Nat} : ∀ {l : List Ref} {i0 : Nat}, noClash memR news l i0 = true → ∀ j r o, l[j]? = some r → get memR (i0 + j) = some o → r.key ∉ news
  | [], _, _, j, _, _, hj, _ => by simp at hj
  | x :: l, i0, h, j, r, o, hj, ho => by
    simp only [noClash, Bool.and_eq_true] at h
    cases j with
    | zero =>
      simp only [List.getElem?_cons_zero, Option.some.injEq] at hj
      subst hj
      intro hm
      rw [cond_true (memB_iff.2 hm)] at h
      have := h.1
      rw [show i0 + 0 = i0 from rfl] at ho
      rw [ho] at this
      cases this
    | succ j => exact noClash_get h.2 j r o (by simpa using hj) (by rw [show i0 + 1 + j = i0 + (j + 1) by omega]; exact ho)
theorem hereAll_get {mem : AL Obj} : ∀ {ks : List Nat}, hereAll mem ks = true → ∀ k ∈ ks, ∃ o, get mem k = some o
  | [], _, k, hk => by simp at hk
  | m :: ks, h, k, hk => by
    simp only [hereAll, Bool.and_eq_true] at h
    rcases List.mem_cons.1 hk with rfl | hk
    · exact Option.isSome_iff_exists.1 h.1
    · exact hereAll_get h.2 k hk
theorem closedMem_get {mem : AL Obj} : ∀ {l : AL Obj}, closedMem mem l = true → ∀ k o, (k, o) ∈ l → (∀ x ∈ keysOfO o, ∃ o', get mem x = some o') ∧ fullO o = true
  | [], _, k, o, h => by simp at h
  | (m, y) :: r, h, k, o, hm => by
    simp only [closedMem, Bool.and_eq_true] at h
    rcases List.mem_cons.1 hm with hm | hm
    · simp only [Prod.mk.injEq] at hm
      obtain ⟨rfl, rfl⟩ := hm
      exact ⟨hereAll_get h.1.1, h.1.2⟩
    · exact closedMem_get h.2 k o hm
theorem mutO_invals {P : Program} {s : Slot} {b x : Nat} : ∀ {ks : List Nat} {o : Obj}, MutO P s (invalsO ks o) b x ↔ MutO P s o b x
  | [], _ => Iff.rfl
  | k :: ks, o => (mutO_invals (ks := ks) (o := invalO k o)).trans mutO_inval
theorem realO_invals : ∀ {ks : List Nat} {o : Obj}, realO (invalsO ks o) ↔ realO o
  | [], _ => Iff.rfl
  | k :: ks, o => (realO_invals (ks := ks) (o := invalO k o)).trans realO_inval
theorem invalsO_box : ∀ {ks : List Nat} {cs : List C}, invalsO ks (.box cs) = .box (cs.map (invalsC ks))
  | [], cs => by
    have : invalsC [] = id := rfl
    simp [invalsO, this]
  | k :: ks, cs => by
    show invalsO ks (.box (cs.map (inval k))) = _
    rw [invalsO_box, List.map_map]
    rfl
theorem invalsO_row {e : TypeId} {ex nl : Bool} {xs : List D} : ∀ {ks : List Nat}, invalsO ks (.row e ex nl xs) = .row e ex nl xs
  | [] => rfl
  | _ :: ks => invalsO_row (ks := ks)
theorem invalsO_map {kt vt : TypeId} {es : List (D × D)} : ∀ {ks : List Nat}, invalsO ks (.map kt vt es) = .map kt vt es
  | [] => rfl
  | _ :: ks => invalsO_map (ks := ks)
theorem invalsO_eq_box {ks : List Nat} {o : Obj} {cs : List C} (h : invalsO ks o = .box cs) : ∃ cs0, o = .box cs0 ∧ cs = cs0.map (invalsC ks) := by
  cases o with
  | box cs0 => rw [invalsO_box] at h; simp only [Obj.box.injEq] at h; exact ⟨cs0, rfl, h.symm⟩
  | row => rw [invalsO_row] at h; cases h
  | map => rw [invalsO_map] at h; cases h
theorem Keeps.refl (w : World) (S : Stab) : Keeps w S w S := fun _ _ _ a b => ⟨a, b⟩
section
variable {P : Program} {S S' : Stab} {w w' : World}
theorem CRel.invals {env' : Env} (hk : Keeps w S w' S') : ∀ (ks : List Nat) {env : Env}, (∀ k, k ∉ ks → env' k = env k) → ∀ {c : C} {v : Value}, CRel P env S w c v → CRel P env' S' w' (invalsC ks c) v
  | [], env, he, c, v, h => CRel.mono hk (fun k _ => he k (by simp)) h
  | k :: ks, env, he, c, v, h => CRel.invals hk ks (env := fun x => if x = k then env' k else env x) (fun x hx => by
      by_cases hxk : x = k
      · simp [hxk]
      · simp only [hxk, if_false]; exact he x (by simp [hxk, hx])) (CRel.inval (Keeps.refl w S) k (fun x hx => if_neg hx) h)
theorem VRelA.invals {a : Act} {env' : Env} (hk : Keeps w S w' S') : ∀ (ks : List Nat) {env : Env}, (∀ k, k ∉ ks → env' k = env k) → ∀ {c : V} {v : Value}, VRelA P env S w a c v → VRelA P env' S' w' a (invalsV ks c) v
  | [], env, he, c, v, h => VRelA.mono hk (fun k => he k (by simp)) h
  | k :: ks, env, he, c, v, h => VRelA.invals hk ks (env := fun x => if x = k then env' k else env x) (fun x hx => by
      by_cases hxk : x = k
      · simp [hxk]
      · simp only [hxk, if_false]; exact he x (by simp [hxk, hx])) (VRelA.inval (Keeps.refl w S) k (fun x hx => if_neg hx) h)
theorem obj_invals {env' : Env} {s : Slot} (hk : Keeps w S w' S') : ∀ (ks : List Nat) {env : Env}, (∀ k, k ∉ ks → env' k = env k) → ∀ {o : Obj}, (realO o → w'.heap[s.blk]? = w.heap[s.blk]?) → ObjRel P env S w s o → ObjRel P env' S' w' s (invalsO ks o)
  | [], env, he, o, hh, h => by
    have : env' = env := funext fun k => he k (by simp)
    subst this
    exact obj_same hk hh h
  | k :: ks, env, he, o, hh, h => obj_invals hk ks (env := fun x => if x = k then env' k else env x) (fun x hx => by
      by_cases hxk : x = k
      · simp [hxk]
      · simp only [hxk, if_false]; exact he x (by simp [hxk, hx])) (fun hr => hh (realO_inval.1 hr)) (obj_inval (Keeps.refl w S) (fun x hx => if_neg hx) (fun _ => rfl) h)

/-! ### The names that a call gave, in the caller's own -/
variable {env1 env2 : Env} {acc : List Ref} {base : Nat}
def SlotEq (env1 env2 : Env) (acc : List Ref) (base k : Nat) : Prop :=
  (env2 (backKey acc base k).1).blk = (env1 k).blk ∧ (env2 (backKey acc base k).1).base + (backKey acc base k).2 = (env1 k).base ∧ (env2 (backKey acc base k).1).head = (env1 k).head
theorem backC_sound (hk : Keeps w S w' S') {c : C} {v : Value} (hb : ∀ k ∈ keysOf c, SlotEq env1 env2 acc base k) (h : CRel P env1 S w c v) : CRel P env2 S' w' (backC acc base c) v := by
  cases c with
  | p k o =>
    obtain ⟨h1, h2, h3⟩ := hb k (by simp [keysOf])
    simp only [backC, CRel] at h ⊢
    rw [h, h1, ← Nat.add_assoc, h2]
  | re k e ix o =>
    obtain ⟨h1, h2, h3⟩ := hb k (by simp [keysOf])
    simp only [backC, CRel] at h ⊢
    rw [h, h1]
  | pi k b l e ix o =>
    obtain ⟨h1, h2, h3⟩ := hb k (by simp [keysOf])
    simp only [backC, CRel] at h ⊢
    refine ⟨h.1, h.2.1, ?_⟩
    rw [h.2.2, h1, ← h2]
    congr 3
    omega
  | o k =>
    obtain ⟨h1, h2, h3⟩ := hb k (by simp [keysOf])
    simp only [backC, CRel, Slot.hdr] at h ⊢
    rw [h, h1, h3]
  | m k =>
    obtain ⟨h1, h2, h3⟩ := hb k (by simp [keysOf])
    simp only [backC, CRel] at h ⊢
    rw [h, h1]
  | f fn caps =>
    simp only [backC, CRel] at h ⊢
    rw [h, List.map_map]
    congr 2
    refine List.map_congr_left fun x hx => ?_
    obtain ⟨h1, h2, h3⟩ := hb x.1 (by simp only [keysOf]; exact List.mem_map_of_mem hx)
    simp only [Function.comp, capV]
    rw [h1, ← Nat.add_assoc, h2]
  | _ => exact CRel.mono hk (by intro k hk'; simp [backC, keysC] at hk') h
theorem backV_sound (hk : Keeps w S w' S') {x : V} {v : Value} (hp : plainV x = true) (hb : ∀ k ∈ keysOfV x, SlotEq env1 env2 acc base k) (h : VRel P env1 S w x v) : VRel P env2 S' w' (backV acc base x) v := by
  cases x with
  | c c => exact backC_sound hk hb h
  | g xs =>
    obtain ⟨vs, h1, h2⟩ := h
    exact ⟨vs, h1, h2.mapl fun c u hc hcu => backC_sound hk (fun k hkk => hb k (by simp only [keysOfV, List.mem_flatMap]; exact ⟨c, hc, hkk⟩)) hcu⟩
  | t => cases hp
  | w => cases hp
theorem backV1_sound (hk : Keeps w S w' S') {x : V} {v : Value} (hp : plainV x = true) (hb : ∀ k ∈ keysOfV x, SlotEq env1 env2 acc base k) (h : VRel1 P env1 S w x v) : VRel1 P env2 S' w' (backV acc base x) v := by
  cases x with
  | c c => exact backC_sound hk hb h
  | g xs => exact backV_sound (x := .g xs) hk hp hb h
  | t => cases hp
  | w => cases hp
theorem backR_sound (hk : Keeps w S w' S') {xs : List V} {v : Value} (hp : xs.all plainV = true) (hb : ∀ k ∈ xs.flatMap keysOfV, SlotEq env1 env2 acc base k) (h : VRel P env1 S w (resultOf xs) v) : VRel P env2 S' w' (resultOf (xs.map (backV acc base))) v := by
  rw [List.all_eq_true] at hp
  have many : VRel P env1 S w (.t xs) v → VRel P env2 S' w' (.t (xs.map (backV acc base))) v := by
    rintro ⟨vs, h1, h2⟩
    exact ⟨vs, h1, h2.mapl fun x u hx hxu => backV1_sound hk (hp x hx) (fun k hkk => hb k (by simp only [List.mem_flatMap]; exact ⟨x, hx, hkk⟩)) hxu⟩
  match xs, h, hp, hb, many with
  | [], h, _, _, many => exact many h
  | [x], h, hp, hb, _ => exact backV_sound hk (hp x (by simp)) (fun k hkk => hb k (by simpa using hkk)) h
  | x :: y :: r, h, _, _, many => exact many h
theorem backO_sound (hk : Keeps w S w' S') {s : Slot} {o : Obj} (hh : realO o → w'.heap[s.blk]? = w.heap[s.blk]?) (hb : ∀ k ∈ keysOfO o, SlotEq env1 env2 acc base k) (h : ObjRel P env1 S w s o) : ObjRel P env2 S' w' s (backO acc base o) := by
  cases o with
  | box cs =>
    obtain ⟨cur, T, h1, h2, h3⟩ := h
    refine ⟨cur, T, by rw [hh trivial]; exact h1, by simpa using h2, ?_⟩
    simp only [List.length_map]
    exact h3.mapl fun c u hc hcu => backC_sound hk (fun k hkk => hb k (by simp only [keysOfO, List.mem_flatMap]; exact ⟨c, hc, hkk⟩)) hcu
  | row e ex nl xs => exact row_mono hk hh h ex
  | map kt vt es => exact map_mono hk (hh trivial) h
theorem mutO_back {s : Slot} {b x : Nat} {o : Obj} : MutO P s (backO acc base o) b x ↔ MutO P s o b x := by cases o <;> simp [backO, MutO]
theorem realO_back {o : Obj} : realO (backO acc base o) ↔ realO o := by cases o <;> simp [backO, realO]
theorem mutO_ex {s : Slot} {o : Obj} (hr : realO o) (hf : fullO o = true) : ∃ x, MutO P s o s.blk x := by
  cases o with
  | box cs => cases cs with
    | nil => cases hf
    | cons c cs => exact ⟨s.base, rfl, Nat.le_refl _, by simp⟩
  | row e ex nl xs => exact ⟨_, hr, rfl, .inr (Nat.le_refl _)⟩
  | map kt vt es => exact ⟨0, rfl⟩
theorem obj_lt {env : Env} {s : Slot} {o : Obj} (h : ObjRel P env S w s o) (hr : realO o) : s.blk < w.heap.size := by
  cases o with
  | box cs => obtain ⟨_, _, h1, _⟩ := h; exact (Array.getElem?_eq_some_iff.1 h1).1
  | row e ex nl xs =>
    obtain ⟨_, ⟨h1, _⟩ | ⟨_, _, _, _, _, h1, _⟩⟩ := h
    · simp only [realO] at hr; rw [hr] at h1; cases h1
    · exact (Array.getElem?_eq_some_iff.1 h1).1
  | map kt vt es => obtain ⟨_, _, h1, _⟩ := h; exact (Array.getElem?_eq_some_iff.1 h1).1
end
end Go.AM
