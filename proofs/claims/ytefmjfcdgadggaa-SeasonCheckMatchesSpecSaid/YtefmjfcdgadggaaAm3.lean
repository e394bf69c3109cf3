/- The abstract machine and the model: what it means that a state of the one stands for a state of the other. -/
import Derived.Test.YtefmjfcdgadggaaAm1
set_option linter.all false
namespace Go.AM
open Go

theorem cond_true {α : Type} {c : Bool} {x y : α} (h : c = true) : (bif c then x else y) = x := by subst h; rfl
theorem cond_false {α : Type} {c : Bool} {x y : α} (h : c = false) : (bif c then x else y) = y := by subst h; rfl

/-! ### Association lists -/
theorem beq_eq' {m n : Nat} : Nat.beq m n = decide (m = n) := by
  by_cases h : m = n
  · subst h; simp
  · rw [decide_eq_false h]; cases hb : Nat.beq m n with
    | false => rfl
    | true => exact absurd (Nat.eq_of_beq_eq_true hb) h
theorem get_set {α : Type} (l : AL α) (n m : Nat) (x : α) : get (set l n x) m = if m = n then some x else get l m := by
  induction l with
  | nil => simp only [set, get, beq_eq']; by_cases h : m = n
           · subst h; simp
           · simp [h, Ne.symm h]
  | cons e r ih =>
    obtain ⟨k, v⟩ := e
    simp only [set, beq_eq']
    by_cases hk : k = n
    · subst hk
      simp only [decide_true, cond_true, get, beq_eq']
      by_cases h : m = k
      · subst h; simp
      · simp [h, Ne.symm h]
    · simp only [decide_eq_false hk, cond_false]
      cases Nat.ble n k with
      | true =>
        simp only [cond_true, get, beq_eq']
        by_cases h : m = n
        · subst h; simp
        · simp [h, Ne.symm h]
      | false =>
        simp only [cond_false, get, beq_eq', ih]
        by_cases h : m = n
        · subst h; simp [hk]
        · simp [h]
theorem get_mapV {α β : Type} (h : α → β) (l : AL α) (n : Nat) : get (mapV h l) n = (get l n).map h := by
  induction l with
  | nil => rfl
  | cons e r ih =>
    obtain ⟨k, v⟩ := e
    simp only [mapV, get, beq_eq', ih]
    by_cases hk : k = n <;> simp [hk]
theorem get_del {α : Type} (l : AL α) (n m : Nat) : get (del l n) m = if m = n then none else get l m := by
  induction l with
  | nil => simp [del, get]
  | cons e r ih =>
    obtain ⟨k, v⟩ := e
    simp only [del, beq_eq']
    by_cases hk : k = n
    · subst hk
      simp only [decide_true, cond_true, ih, get, beq_eq']
      by_cases h : m = k
      · subst h; simp
      · simp [h, Ne.symm h]
    · simp only [decide_eq_false hk, cond_false, get, beq_eq', ih]
      by_cases h : m = n
      · subst h; simp [hk]
      · simp [h]
theorem get_keep {α : Type} (p : Nat → Bool) (l : AL α) (n : Nat) (x : α) (h : get (keep p l) n = some x) : get l n = some x := by
  induction l with
  | nil => exact h
  | cons e r ih =>
    obtain ⟨k, v⟩ := e
    simp only [keep] at h
    cases hp : p k with
    | true =>
      simp only [hp, cond_true, get, beq_eq'] at h ⊢
      by_cases hk : k = n
      · simpa [hk] using h
      · simp only [decide_eq_false hk, cond_false] at h ⊢; exact ih h
    | false =>
      simp only [hp, cond_false] at h
      have h2 := ih h
      -- a kept key further on: the first entry has another key or the same
      simp only [get, beq_eq']
      by_cases hk : k = n
      · exfalso
        subst hk
        exact absurd h (by
          clear h2 ih
          intro h
          have : ∀ (l : AL α), get (keep p l) k = none := by
            intro l
            induction l with
            | nil => rfl
            | cons e l ih =>
              obtain ⟨k', v'⟩ := e
              simp only [keep]
              cases hp' : p k' with
              | true =>
                simp only [cond_true, get, beq_eq']
                by_cases hkk : k' = k
                · subst hkk; rw [hp] at hp'; cases hp'
                · simp only [decide_eq_false hkk, cond_false]; exact ih
              | false => simp only [cond_false]; exact ih
          rw [this] at h; cases h)
      · simp only [decide_eq_false hk, cond_false]; exact h2

/-! ### Lists held side by side -/
def All2 {α β : Type} (R : α → β → Prop) : List α → List β → Prop
  | [], [] => True
  | x :: xs, y :: ys => R x y ∧ All2 R xs ys
  | _, _ => False
section
variable {α β : Type} {R R' : α → β → Prop}
theorem All2.length : ∀ {xs : List α} {ys : List β}, All2 R xs ys → xs.length = ys.length
  | [], [], _ => rfl
  | _ :: _, _ :: _, h => by simp [All2.length h.2]
  | [], _ :: _, h => h.elim
  | _ :: _, [], h => h.elim
theorem All2.mono {xs : List α} (hr : ∀ x y, x ∈ xs → R x y → R' x y) : ∀ {ys : List β}, All2 R xs ys → All2 R' xs ys := by
  induction xs with
  | nil => intro ys h; cases ys with
    | nil => trivial
    | cons => exact h.elim
  | cons x xs ih => intro ys h; cases ys with
    | nil => exact h.elim
    | cons y ys => exact ⟨hr x y (by simp) h.1, ih (fun a b ha => hr a b (by simp [ha])) h.2⟩
theorem All2.get : ∀ {xs : List α} {ys : List β}, All2 R xs ys → ∀ {j : Nat} {x : α}, xs[j]? = some x → ∃ y, ys[j]? = some y ∧ R x y
  | [], [], _, j, x, hx => by simp at hx
  | x :: xs, y :: ys, h, 0, _, hx => by simp at hx; subst hx; exact ⟨y, by simp, h.1⟩
  | x :: xs, y :: ys, h, j + 1, _, hx => by simp at hx; obtain ⟨z, h1, h2⟩ := All2.get h.2 hx; exact ⟨z, by simpa using h1, h2⟩
  | [], _ :: _, h, _, _, _ => h.elim
  | _ :: _, [], h, _, _, _ => h.elim
theorem All2.of_get : ∀ {xs : List α} {ys : List β}, xs.length = ys.length → (∀ (j : Nat) (x : α) (y : β), xs[j]? = some x → ys[j]? = some y → R x y) → All2 R xs ys
  | [], [], _, _ => trivial
  | x :: xs, y :: ys, hl, h => ⟨h 0 x y (by simp) (by simp), All2.of_get (by simpa using hl) fun j a b ha hb => h (j + 1) a b (by simpa using ha) (by simpa using hb)⟩
  | [], _ :: _, hl, _ => by simp at hl
  | _ :: _, [], hl, _ => by simp at hl
theorem All2.get2 {xs : List α} {ys : List β} (h : All2 R xs ys) {j : Nat} {x : α} {y : β} (hx : xs[j]? = some x) (hy : ys[j]? = some y) : R x y := by
  obtain ⟨z, h1, h2⟩ := h.get hx
  rw [hy] at h1; cases h1; exact h2
theorem All2.drop {xs : List α} {ys : List β} (h : All2 R xs ys) (n : Nat) : All2 R (xs.drop n) (ys.drop n) :=
  .of_get (by simp [h.length]) fun j x y hx hy => h.get2 (j := n + j) (by simpa using hx) (by simpa using hy)
theorem All2.take {xs : List α} {ys : List β} (h : All2 R xs ys) (n : Nat) : All2 R (xs.take n) (ys.take n) :=
  .of_get (by simp [h.length]) fun j x y hx hy => by
    rw [List.getElem?_take] at hx hy
    split at hx
    · rename_i hj; rw [if_pos hj] at hy; exact h.get2 hx hy
    · cases hx
theorem All2.append {xs xs' : List α} {ys ys' : List β} (h : All2 R xs ys) (h' : All2 R xs' ys') : All2 R (xs ++ xs') (ys ++ ys') := by
  induction xs generalizing ys with
  | nil => cases ys with
    | nil => exact h'
    | cons => exact h.elim
  | cons x xs ih => cases ys with
    | nil => exact h.elim
    | cons y ys => exact ⟨h.1, ih h.2⟩
theorem All2.map {γ δ : Type} {R2 : γ → δ → Prop} {f : α → γ} {g : β → δ} {xs : List α} {ys : List β} (h : All2 R xs ys) (hf : ∀ x y, x ∈ xs → R x y → R2 (f x) (g y)) : All2 R2 (xs.map f) (ys.map g) := by
  induction xs generalizing ys with
  | nil => cases ys with
    | nil => trivial
    | cons => exact h.elim
  | cons x xs ih => cases ys with
    | nil => exact h.elim
    | cons y ys => exact ⟨hf x y (by simp) h.1, ih h.2 fun a b ha => hf a b (by simp [ha])⟩
theorem All2.mapl {γ : Type} {R2 : γ → β → Prop} {f : α → γ} {xs : List α} {ys : List β} (h : All2 R xs ys) (hf : ∀ x y, x ∈ xs → R x y → R2 (f x) y) : All2 R2 (xs.map f) ys := by
  have := All2.map (R2 := R2) (f := f) (g := id) h hf
  simpa using this
end

/-! ### Data in memory -/
abbrev Stab := Nat → Nat → Prop
def elD (P : Program) (e : TypeId) (d : D) (j : Nat) : D := bif isAggB P e then d.cell j else d
def Keeps (w : World) (S : Stab) (w' : World) (S' : Stab) : Prop := ∀ b o v, S b o → w.cell? ⟨b, o, none⟩ = some v → S' b o ∧ w'.cell? ⟨b, o, none⟩ = some v
inductive RepD (P : Program) (w : World) (S : Stab) : CK → D → Value → Prop
  | int (k : IntKind) (d : D) : RepD P w S (.int k) d (.int k d.toI)
  | bool (d : D) : RepD P w S .bool d (.bool d.toB)
  | str (d : D) : RepD P w S .str d (.string ⟨d.toS.toArray⟩)
  | nil (e : TypeId) (d : D) (h1 : d.isNil = true) (h2 : d.items = []) : RepD P w S (.sl e) d (.slice none 0 0)
  | emp (e : TypeId) (d : D) (a : Addr) (cap : Nat) (h1 : d.isNil = false) (h2 : d.items = []) (hm : cap ≤ maxLen) : RepD P w S (.sl e) d (.slice (some a) 0 cap)
  | sl (e : TypeId) (d : D) (b off cap : Nat) (cv : Nat → Nat → Value) (h1 : d.isNil = false) (h2 : sizeB P e = (kinds P e).length) (hl : d.items.length ≤ cap) (hm : cap ≤ maxLen)
      (h3 : ∀ i, i < d.items.length → ∀ j, j < (kinds P e).length → S b (off + i * sizeB P e + j) ∧ w.cell? ⟨b, off + i * sizeB P e + j, none⟩ = some (cv i j))
      (h4 : ∀ i, i < d.items.length → ∀ (j : Nat) (k : CK), (kinds P e)[j]? = some k → RepD P w S k (elD P e (d.items.getD i (.i 0)) j) (cv i j)) :
      RepD P w S (.sl e) d (.slice (some ⟨b, off, none⟩) d.items.length cap)
theorem RepD.mono {P : Program} {w w' : World} {S S' : Stab} (h : Keeps w S w' S') {k : CK} {d : D} {v : Value} (hr : RepD P w S k d v) : RepD P w' S' k d v := by
  induction hr with
  | int k d => exact .int k d
  | bool d => exact .bool d
  | str d => exact .str d
  | nil e d h1 h2 => exact .nil e d h1 h2
  | emp e d a cap h1 h2 hm => exact .emp e d a cap h1 h2 hm
  | sl e d b off cap cv h1 h2 hl hm h3 _ ih =>
    exact .sl e d b off cap cv h1 h2 hl hm (fun i hi j hj => let ⟨a, c⟩ := h3 i hi j hj; h _ _ _ a c) ih
def ElAt (P : Program) (w : World) (S : Stab) (e : TypeId) (d : D) (b o : Nat) : Prop :=
  sizeB P e = (kinds P e).length ∧ ∀ (j : Nat) (k : CK), (kinds P e)[j]? = some k → ∃ cv, S b (o + j) ∧ w.cell? ⟨b, o + j, none⟩ = some cv ∧ RepD P w S k (elD P e d j) cv
theorem ElAt.mono {P : Program} {w w' : World} {S S' : Stab} (h : Keeps w S w' S') {e : TypeId} {d : D} {b o : Nat} (hr : ElAt P w S e d b o) : ElAt P w' S' e d b o :=
  ⟨hr.1, fun j k hk => let ⟨cv, h1, h2, h3⟩ := hr.2 j k hk; ⟨cv, (h _ _ _ h1 h2).1, (h _ _ _ h1 h2).2, h3.mono h⟩⟩

/-! ### Cells, values -/
structure Slot where
  blk : Nat
  base : Nat
  head : Option (Nat × Nat) := none
def Slot.hdr (s : Slot) : Value := match s.head with | none => .slice none 0 0 | some (n, c) => .slice (some ⟨s.blk, 0, none⟩) n c
abbrev Env := Nat → Slot
def capV (env : Env) (x : Nat × Nat) : Value := .pointer (some ⟨(env x.1).blk, (env x.1).base + x.2, none⟩)
def CRel (P : Program) (env : Env) (S : Stab) (w : World) : C → Value → Prop
  | .u, _ => True
  | .i k n, v => v = .int k n
  | .b x, v => v = .bool x
  | .k x, v => v = .bool x
  | .s l, v => v = .string ⟨l.toArray⟩
  | .sl e n xs, v => RepD P w S (.sl e) (.l n xs) v
  | .v x, v => v = x
  | .p key off, v => v = .pointer (some ⟨(env key).blk, (env key).base + off, none⟩)
  | .el e d off, v => ∃ b o, v = .pointer (some ⟨b, o + off, none⟩) ∧ ElAt P w S e d b o
  | .re key e ix off, v => v = .pointer (some ⟨(env key).blk, ix * sizeB P e + off, none⟩)
  | .pi key base len esz ix off, v => ix < len ∧ 0 < esz ∧ v = .pointer (some ⟨(env key).blk, (env key).base + (base + ix * esz) + off, none⟩)
  | .o key, v => v = (env key).hdr
  | .m key, v => v = .map (some (env key).blk)
  | .f fn caps, v => v = .func (.func fn) #[] (caps.map (capV env)).toArray
def VRel1 (P : Program) (env : Env) (S : Stab) (w : World) : V → Value → Prop
  | .c x, v => CRel P env S w x v
  | .g xs, v => ∃ vs : Array Value, v = .agg vs ∧ All2 (CRel P env S w) xs vs.toList
  | _, _ => False
def VRel (P : Program) (env : Env) (S : Stab) (w : World) : V → Value → Prop
  | .c x, v => CRel P env S w x v
  | .g xs, v => ∃ vs : Array Value, v = .agg vs ∧ All2 (CRel P env S w) xs vs.toList
  | .t xs, v => ∃ vs : Array Value, v = .tuple vs ∧ All2 (VRel1 P env S w) xs vs.toList
  | .w _ _ _, _ => False
def yieldsA (a : Act) (s : Nat) (want : Bool) : Prop := a.tmps[s]? = some (.bool want)
def VRelA (P : Program) (env : Env) (S : Stab) (w : World) (a : Act) : V → Value → Prop
  | .w s want y, v => (yieldsA a s want → VRel P env S w y v) ∧ (¬ yieldsA a s want → v = undef)
  | x, v => VRel P env S w x v
theorem VRelA.of {P : Program} {env : Env} {S : Stab} {w : World} {a : Act} {x : V} {v : Value} (h : VRel P env S w x v) : VRelA P env S w a x v := by
  cases x <;> first | exact h | exact h.elim

/-- The keys that a cell names. -/
def keysC : C → List Nat
  | .p k _ => [k]
  | .re k _ _ _ => [k]
  | .pi k _ _ _ _ _ => [k]
  | .o k => [k]
  | .m k => [k]
  | .f _ caps => caps.map (·.1)
  | _ => []
section
variable {P : Program} {env env' : Env} {S S' : Stab} {w w' : World}
theorem CRel.mono (h : Keeps w S w' S') {x : C} {v : Value} (hk : ∀ k ∈ keysC x, env' k = env k) (hr : CRel P env S w x v) : CRel P env' S' w' x v := by
  cases x with
  | sl e n xs => exact RepD.mono h hr
  | el e d off => obtain ⟨b, o, h1, h2⟩ := hr; exact ⟨b, o, h1, h2.mono h⟩
  | p k o => simp only [CRel] at hr ⊢; rw [hk k (by simp [keysC])]; exact hr
  | re k e a b => simp only [CRel] at hr ⊢; rw [hk k (by simp [keysC])]; exact hr
  | pi k b l e i o => simp only [CRel] at hr ⊢; rw [hk k (by simp [keysC])]; exact hr
  | o k => simp only [CRel] at hr ⊢; rw [hk k (by simp [keysC])]; exact hr
  | m k => simp only [CRel] at hr ⊢; rw [hk k (by simp [keysC])]; exact hr
  | f fn caps =>
    simp only [CRel] at hr ⊢
    rw [hr]
    congr 2
    refine List.map_congr_left fun x hx => ?_
    simp only [capV]; rw [hk x.1 (by simp only [keysC]; exact List.mem_map_of_mem hx)]
  | _ => exact hr
theorem keysC_inval (key : Nat) (x : C) : ∀ k ∈ keysC (inval key x), k ≠ key := by
  intro k hk
  have one : ∀ (k0 : Nat) (y : C), keysC y = [k0] → k ∈ keysC (bif Nat.beq k0 key then C.u else y) → k ≠ key := by
    intro k0 y hy h
    rw [beq_eq'] at h
    by_cases hne : k0 = key
    · rw [cond_true (by simpa using hne)] at h; simp [keysC] at h
    · rw [cond_false (by simpa using hne), hy] at h; simp at h; omega
  cases x with
  | p k0 o => exact one k0 _ rfl hk
  | re k0 e a b => exact one k0 _ rfl hk
  | pi k0 b l e i o => exact one k0 _ rfl hk
  | o k0 => exact one k0 _ rfl hk
  | m k0 => exact one k0 _ rfl hk
  | f fn caps =>
    simp only [inval] at hk
    cases hc : caps.any (fun x => Nat.beq x.1 key) with
    | true => rw [hc] at hk; simp [keysC] at hk
    | false =>
      rw [hc] at hk
      simp only [cond_false, keysC, List.mem_map] at hk
      obtain ⟨x, hx, rfl⟩ := hk
      intro he
      rw [List.any_eq_false] at hc
      exact hc x hx (by rw [beq_eq']; simpa using he)
  | _ => simp [inval, keysC] at hk
theorem CRel.inval (h : Keeps w S w' S') (key : Nat) (he : ∀ k, k ≠ key → env' k = env k) {x : C} {v : Value} (hr : CRel P env S w x v) : CRel P env' S' w' (inval key x) v := by
  have one : ∀ (c : Bool) (y : C), CRel P env S w y v → CRel P env S w (bif c then .u else y) v := fun c y hy => by cases c <;> first | trivial | exact hy
  have h1 : CRel P env S w (AM.inval key x) v := by
    cases x <;> simp only [AM.inval] <;> first | exact one _ _ hr | exact hr
  exact CRel.mono h (fun k hk => he k (keysC_inval key x k hk)) h1
theorem VRel1.mono (h : Keeps w S w' S') (hk : ∀ k, env' k = env k) {x : V} {v : Value} (hr : VRel1 P env S w x v) : VRel1 P env' S' w' x v := by
  cases x with
  | c x => exact CRel.mono h (fun k _ => hk k) hr
  | g xs => obtain ⟨vs, h1, h2⟩ := hr; exact ⟨vs, h1, h2.mono fun x y _ => CRel.mono h fun k _ => hk k⟩
  | _ => exact hr.elim
theorem VRel.mono (h : Keeps w S w' S') (hk : ∀ k, env' k = env k) {x : V} {v : Value} (hr : VRel P env S w x v) : VRel P env' S' w' x v := by
  cases x with
  | c x => exact CRel.mono h (fun k _ => hk k) hr
  | g xs => obtain ⟨vs, h1, h2⟩ := hr; exact ⟨vs, h1, h2.mono fun x y _ => CRel.mono h fun k _ => hk k⟩
  | t xs => obtain ⟨vs, h1, h2⟩ := hr; exact ⟨vs, h1, h2.mono fun x y _ => VRel1.mono h hk⟩
  | w _ _ _ => exact hr.elim
theorem VRel1.inval (h : Keeps w S w' S') (key : Nat) (he : ∀ k, k ≠ key → env' k = env k) {x : V} {v : Value} (hr : VRel1 P env S w x v) : VRel1 P env' S' w' (inval1 key x) v := by
  cases x with
  | c x => exact CRel.inval h key he hr
  | g xs => obtain ⟨vs, h1, h2⟩ := hr; exact ⟨vs, h1, h2.mapl fun x y _ => CRel.inval h key he⟩
  | _ => exact hr.elim
theorem VRel.inval1 (h : Keeps w S w' S') (key : Nat) (he : ∀ k, k ≠ key → env' k = env k) {x : V} {v : Value} (hr : VRel P env S w x v) : VRel P env' S' w' (inval1 key x) v := by
  cases x with
  | c x => exact CRel.inval h key he hr
  | g xs => obtain ⟨vs, h1, h2⟩ := hr; exact ⟨vs, h1, h2.mapl fun x y _ => CRel.inval h key he⟩
  | t xs => trivial
  | w _ _ _ => exact hr.elim
theorem VRelA.inval {a : Act} (h : Keeps w S w' S') (key : Nat) (he : ∀ k, k ≠ key → env' k = env k) {x : V} {v : Value} (hr : VRelA P env S w a x v) : VRelA P env' S' w' a (invalV key x) v := by
  cases x with
  | c x => exact CRel.inval h key he hr
  | g xs => obtain ⟨vs, h1, h2⟩ := hr; exact ⟨vs, h1, h2.mapl fun x y _ => CRel.inval h key he⟩
  | t xs => obtain ⟨vs, h1, h2⟩ := hr; exact ⟨vs, h1, h2.mapl fun x y _ => VRel1.inval h key he⟩
  | w s b x => exact ⟨fun hy => VRel.inval1 h key he (hr.1 hy), hr.2⟩
theorem VRelA.mono {a : Act} (h : Keeps w S w' S') (hk : ∀ k, env' k = env k) {x : V} {v : Value} (hr : VRelA P env S w a x v) : VRelA P env' S' w' a x v := by
  cases x with
  | w s b x => exact ⟨fun hy => VRel.mono h hk (hr.1 hy), hr.2⟩
  | c x => exact VRel.mono h hk (x := .c x) hr
  | g xs => exact VRel.mono h hk (x := .g xs) hr
  | t xs => exact VRel.mono h hk (x := .t xs) hr
end

/-! ### Objects, states -/
def realO : Obj → Prop
  | .row _ _ nl _ => nl = false
  | _ => True
def MutO (P : Program) (s : Slot) : Obj → Nat → Nat → Prop
  | .box cs, b, o => b = s.blk ∧ s.base ≤ o ∧ o < s.base + cs.length
  | .row e ex nl xs, b, o => nl = false ∧ b = s.blk ∧ (ex = true ∨ xs.length * sizeB P e ≤ o)
  | .map _ _ _, b, _ => b = s.blk
section
variable (P : Program) (env : Env) (S : Stab) (w : World)
/-- Two keys that no key tells apart. -/
def EqK (kt : TypeId) (x y : D) : Prop := ∀ k, eqD P kt k x = eqD P kt k y
def EntRel (kt vt : TypeId) (x : D × D) (e : MapEntry) : Prop := (∃ kd, VRel P env S w (valueD P kt kd) e.key ∧ EqK P kt x.1 kd) ∧ VRel P env S w (valueD P vt x.2) e.val
def ObjRel (s : Slot) : Obj → Prop
  | .box cs => ∃ cur T, w.heap[s.blk]? = some (.cells cur T (0, 0)) ∧ s.base + cs.length ≤ cur.size ∧ All2 (CRel P env S w) cs ((cur.toList.drop s.base).take cs.length)
  | .row e _ nl xs => sizeB P e = (kinds P e).length ∧ ((nl = true ∧ xs = [] ∧ s.hdr = .slice none 0 0) ∨
      (nl = false ∧ s.base = 0 ∧ ∃ cap cur, s.hdr = .slice (some ⟨s.blk, 0, none⟩) xs.length cap ∧ w.heap[s.blk]? = some (.cells cur e (0, 0)) ∧ xs.length ≤ cap ∧ cap ≤ maxLen ∧ cur.size = cap * sizeB P e ∧
        ∀ (i : Nat) (j : Nat) (k : CK), i < xs.length → (kinds P e)[j]? = some k → ∃ u, cur[i * sizeB P e + j]? = some u ∧ RepD P w S k (elD P e (xs.getD i (.i 0)) j) u))
  | .map kt vt es => ∃ ents clock, w.heap[s.blk]? = some (.map ents clock) ∧ All2 (EntRel P env S w kt vt) es ents.toList
end
def Sof (P : Program) (B M0 : Stab) (n0 : Nat) (env : Env) (mem : AL Obj) (w : World) : Stab := fun b o =>
  (B b o ∨ n0 ≤ b ∨ M0 b o) ∧ b < w.heap.size ∧ ∀ key ob, get mem key = some ob → ¬ MutO P (env key) ob b o
/-- Between two worlds nothing has turned but what M names. -/
structure Chg (M : Stab) (w w' : World) : Prop where
  os : w'.os = w.os
  tape : w'.tape = w.tape
  output : w'.output = w.output
  size : w.heap.size ≤ w'.heap.size
  cells : ∀ b cur T fr, w.heap[b]? = some (.cells cur T fr) → ∃ cur' : Array Value, w'.heap[b]? = some (.cells cur' T fr) ∧ cur'.size = cur.size ∧ ∀ o, ¬ M b o → cur'[o]? = cur[o]?
  other : ∀ b ob, w.heap[b]? = some ob → (∀ o, ¬ M b o) → w'.heap[b]? = some ob
structure Rel (P : Program) (N n0 : Nat) (B M0 : Stab) (w0 : World) (F : Nat → Prop) (e0 env : Env) (st : St) (a : Act) (w : World) : Prop where
  size : a.tmps.size = N
  dfr : a.defers = []
  hn0 : n0 = w0.heap.size
  tm : ∀ t x, get st.tmps t = some x → VRelA P env (Sof P B M0 n0 env st.mem w) w a x (a.tmps.getD t undef)
  ob : ∀ key o, get st.mem key = some o → ObjRel P env (Sof P B M0 n0 env st.mem w) w (env key) o
  ds : ∀ k k' o o', get st.mem k = some o → get st.mem k' = some o' → realO o → realO o' → k ≠ k' → (env k).blk ≠ (env k').blk
  mu : ∀ key o b x, get st.mem key = some o → MutO P (env key) o b x → M0 b x ∨ n0 ≤ b
  pr : ∀ key e ex xs, get st.mem key = some (.row e ex false xs) → ∀ o, o < xs.length * sizeB P e → B (env key).blk o ∨ n0 ≤ (env key).blk ∨ M0 (env key).blk o
  ch : Chg M0 w0 w
  bb : ∀ b o, B b o → b < n0
  fx : ∀ k, F k → env k = e0 k
theorem Chg.refl (M : Stab) (w : World) : Chg M w w := ⟨rfl, rfl, rfl, Nat.le_refl _, fun _ cur _ _ h => ⟨cur, h, rfl, fun _ _ => rfl⟩, fun _ _ h _ => h⟩
theorem Chg.trans {M M' : Stab} {w w' w'' : World} (h : Chg M w w') (h' : Chg M' w' w'') (hm : ∀ b o, M' b o → M b o ∨ w.heap.size ≤ b) : Chg M w w'' := by
  refine ⟨h'.os.trans h.os, h'.tape.trans h.tape, h'.output.trans h.output, Nat.le_trans h.size h'.size, ?_, ?_⟩
  · intro b cur T fr hb
    have hlt : b < w.heap.size := (Array.getElem?_eq_some_iff.1 hb).1
    obtain ⟨c1, h1, s1, e1⟩ := h.cells b cur T fr hb
    obtain ⟨c2, h2, s2, e2⟩ := h'.cells b c1 T fr h1
    refine ⟨c2, h2, s2.trans s1, fun o ho => ?_⟩
    rw [e2 o (fun hm' => by rcases hm b o hm' with h3 | h3
                            · exact ho h3
                            · omega), e1 o ho]
  · intro b ob hb hno
    have hlt : b < w.heap.size := (Array.getElem?_eq_some_iff.1 hb).1
    exact h'.other b ob (h.other b ob hb hno) fun o hm' => by
      rcases hm b o hm' with h3 | h3
      · exact hno o h3
      · omega
theorem cell_some {w : World} {b o : Nat} {v : Value} (h : w.cell? ⟨b, o, none⟩ = some v) : ∃ cur T fr, w.heap[b]? = some (.cells cur T fr) ∧ cur[o]? = some v := by
  unfold World.cell? at h
  cases hw : w.heap[b]? with
  | none => simp only [hw] at h; cases h
  | some ob =>
    cases ob <;> simp only [hw] at h
    case cells cur T fr => exact ⟨cur, T, fr, rfl, by simpa using h⟩
    all_goals cases h
theorem cell_of {w : World} {b o : Nat} {v : Value} {cur : Array Value} {T : TypeId} {fr : Nat × Nat} (h : w.heap[b]? = some (.cells cur T fr)) (hv : cur[o]? = some v) : w.cell? ⟨b, o, none⟩ = some v := by
  unfold World.cell?; simp only [h]; simpa using hv
theorem Chg.cell {M : Stab} {w w' : World} (h : Chg M w w') {b o : Nat} {v : Value} (hv : w.cell? ⟨b, o, none⟩ = some v) (hm : ¬ M b o) : w'.cell? ⟨b, o, none⟩ = some v := by
  obtain ⟨cur, T, fr, h1, h2⟩ := cell_some hv
  obtain ⟨c', h3, _, h4⟩ := h.cells b cur T fr h1
  exact cell_of h3 (by rw [h4 o hm]; exact h2)
theorem cell_lt {w : World} {b o : Nat} {v : Value} (h : w.cell? ⟨b, o, none⟩ = some v) : b < w.heap.size := by
  obtain ⟨_, _, _, h1, _⟩ := cell_some h
  exact (Array.getElem?_eq_some_iff.1 h1).1
end Go.AM
