/- The abstract machine: what the printed texts lean on. -/
import Derived.Test.YtefmjfcdgadggaaAm29
import Derived.Test.YtefmjfcdgadggaaAm33
set_option linter.all false
namespace Go.AM
open Go

/-! ### Trees -/
theorem cond_mono {R : Type} {c : Bool} {x y x' y' : Option R} {r : R} (hx : x = some r → x' = some r) (hy : y = some r → y' = some r) : (bif c then x else y) = some r → (bif c then x' else y') = some r := by cases c <;> assumption
theorem cond_ex {R : Type} {c : Bool} {x y : Option R} (hx : ∃ r, x = some r) (hy : ∃ r, y = some r) : ∃ r, (bif c then x else y) = some r := by cases c <;> assumption
/-- A value with a name. -/
def bnd {A B : Type} (a : A) (f : A → B) : B := f a
theorem bnd_k {A B R : Type} {e : A} {f : A → R} {k : B → R} {g : A → B} (h : ∀ x, f x = k (g x)) : bnd e f = k (bnd e g) := h e
theorem bnd_mono {A R : Type} {e : A} {f f' : A → Option R} {r : R} (h : ∀ x, f x = some r → f' x = some r) : bnd e f = some r → bnd e f' = some r := h e
theorem bnd_bind {A B R : Type} (e : A) (f : A → Option B) (k : B → Option R) : (bnd e f).bind k = bnd e fun x => (f x).bind k := rfl
theorem cond_b {A R : Type} {c : Bool} {x y : Option R} {a b : Option A} {K : A → Option R} (hx : x = a.bind K) (hy : y = b.bind K) : (bif c then x else y) = (bif c then a else b).bind K := by cases c <;> assumption
theorem bnd_b {E A R : Type} {e : E} {f : E → Option R} {g : E → Option A} {K : A → Option R} (h : ∀ z, f z = (g z).bind K) : bnd e f = (bnd e g).bind K := h e
def bigN : Nat := 18446744073709551616

/-! ### Results -/
theorem altK1 {A R : Type} {o : Option A} {sh : A → R} {d : A} {r : R} (h : altK [(o.isSome, sh (o.getD d))] some = some r) : o.bind (fun p => some (sh p)) = some r := by
  cases o with
  | none => simp [altK] at h
  | some a => simpa [altK] using h

theorem cond_k {A R : Type} {c : Bool} {x y : R} {k : A → R} {a b : A} (hx : x = k a) (hy : y = k b) : (bif c then x else y) = k (bif c then a else b) := by cases c <;> assumption

/-! ### Pieces of code -/
theorem cutsOf_sub : ∀ {c b b' : Code}, b ∈ cutsOf c → b' ∈ cutsOf b → b' ∈ cutsOf c := by
  intro c
  induction c with
  | seq x y ihx ihy =>
    intro b b' h h'
    simp only [cutsOf, List.mem_append] at h ⊢
    exact h.imp (fun h => ihx h h') (fun h => ihy h h')
  | cond o x y ihx ihy =>
    intro b b' h h'
    simp only [cutsOf, List.mem_cons, List.mem_append] at h
    rcases h with rfl | h
    · exact h'
    · simp only [cutsOf, List.mem_cons, List.mem_append]
      exact .inr (h.imp (fun h => ihx h h') (fun h => ihy h h'))
  | block id x ih => intro b b' h h'; simp only [cutsOf] at h ⊢; exact ih h h'
  | loop x ih =>
    intro b b' h h'
    simp only [cutsOf, List.mem_cons] at h
    rcases h with rfl | h
    · exact h'
    · simp only [cutsOf, List.mem_cons]; exact .inr (ih h h')
  | region id ops d =>
    intro b b' h h'
    simp only [cutsOf, List.mem_singleton] at h
    subst h
    exact h'
  | _ => intro b b' h; simp [cutsOf] at h
def cutsF (P : Program) (f : FuncId) : List Code :=
  match P.funcs[f]? with
  | some fn => (match fn.body with | some c => cutsOf c | none => [])
  | none => []
def hasId (id : Nat) (b : Code) : Bool := match cutId b with | some i => Nat.beq i id | none => false
def pieces (id : Nat) : List Code → List Code
  | [] => []
  | b :: r => bif hasId id b then b :: pieces id r else pieces id r
/-- The piece with this number. -/
def piece (P : Program) (f : FuncId) (id : Nat) : Code := match pieces id (cutsF P f) with | b :: _ => b | [] => .skip
def oneB (P : Program) (f : FuncId) (id : Nat) : Bool := match pieces id (cutsF P f) with | [_] => true | _ => false
theorem mem_pieces {id : Nat} {b : Code} : ∀ {l : List Code}, b ∈ l → hasId id b = true → b ∈ pieces id l
  | x :: l, h, hi => by
    simp only [pieces]
    rcases List.mem_cons.1 h with rfl | h
    · rw [hi]; simp
    · cases hasId id x with
      | true => simp [mem_pieces h hi]
      | false => simpa using mem_pieces h hi
theorem pieces_sub {id : Nat} {b : Code} : ∀ {l : List Code}, b ∈ pieces id l → b ∈ l
  | x :: l, h => by
    simp only [pieces] at h
    cases hx : hasId id x with
    | true =>
      rw [hx] at h
      rcases List.mem_cons.1 h with rfl | h
      · simp
      · simp [pieces_sub h]
    | false => rw [hx] at h; simp [pieces_sub (by simpa using h)]
section
variable {P : Program}
theorem piece_of {f : FuncId} {id : Nat} {b : Code} (h1 : oneB P f id = true) (hb : b ∈ cutsF P f) (hi : hasId id b = true) : b = piece P f id := by
  have hm := mem_pieces hb hi
  unfold oneB at h1
  unfold piece
  split at h1
  · rename_i x hx
    rw [hx] at hm ⊢
    simpa using hm
  · cases h1
theorem piece_mem {f : FuncId} {id : Nat} (h1 : oneB P f id = true) : piece P f id ∈ cutsF P f := by
  unfold oneB at h1
  split at h1
  · rename_i x hx
    unfold piece
    rw [hx]
    exact pieces_sub (id := id) (by rw [hx]; simp)
  · cases h1
def AllCuts (P : Program) (los : AL (St → Option (List (Bool × (Ex × St))))) (kb : Nat) (f : FuncId) : Prop := ∀ id g, get los id = some g → oneB P f id = true ∧ CutLaw P kb (piece P f id) g
theorem AllCuts.nil {kb : Nat} {f : FuncId} : AllCuts P [] kb f := fun _ _ h => by cases h
theorem AllCuts.cons {los : AL (St → Option (List (Bool × (Ex × St))))} {kb : Nat} {f : FuncId} {id : Nat} {g : St → Option (List (Bool × (Ex × St)))} (h : AllCuts P los kb f) (h1 : oneB P f id = true) (hl : CutLaw P kb (piece P f id) g) : AllCuts P ((id, g) :: los) kb f := by
  intro i g' hg
  simp only [get, beq_eq'] at hg
  by_cases hi : id = i
  · subst hi
    simp only [decide_true, cond_true, Option.some.injEq] at hg
    subst hg
    exact ⟨h1, hl⟩
  · rw [cond_false (by simpa using hi)] at hg
    exact h i g' hg
theorem AllCuts.ok {hs : Hint} {kb : Nat} {f : FuncId} (h : AllCuts P hs.los kb f) : ∀ b ∈ cutsF P f, CutOk P hs kb b := by
  intro b hb id g hl
  unfold lawOf at hl
  split at hl
  · cases hl
  · rename_i id' hid
    split at hl
    · rename_i g' hg
      simp only [Option.some.injEq, Prod.mk.injEq] at hl
      obtain ⟨rfl, rfl⟩ := hl
      obtain ⟨h1, h2⟩ := h _ _ hg
      have : b = piece P f id' := piece_of h1 hb (by unfold hasId; rw [hid]; simp)
      rw [this]
      exact h2
    · cases hl
theorem AllCuts.loops {hs : Hint} {kb : Nat} {f : FuncId} (h : AllCuts P hs.los kb f) : LoopsOk P hs kb f := by
  intro fn c hfn hc b hb
  refine h.ok b ?_
  unfold cutsF
  rw [hfn]
  simp only [hc]
  exact hb
theorem AllCuts.inner {hs : Hint} {kb : Nat} {f : FuncId} {id : Nat} (h : AllCuts P hs.los kb f) (h1 : oneB P f id = true) : ∀ b' ∈ cutsOf (piece P f id), CutOk P hs kb b' := by
  intro b' hb'
  refine h.ok b' ?_
  have hmem := piece_mem h1
  unfold cutsF at hmem ⊢
  split at hmem
  · split at hmem
    · exact cutsOf_sub hmem hb'
    · simp at hmem
  · simp at hmem
theorem law_of {cl : Oracle} {hs' : Hint} {kb : Nat} {f0 : FuncId} {id : Nat} {f : St → Option (List (Bool × (Ex × St)))} (hP : ProgOk P) (hcl : OracleOk P cl) (hc : AllCuts P hs'.los kb f0) (h1 : oneB P f0 id = true) (ts ks : List Nat)
    (h : ∀ st alts, f st = some alts → ∀ x, altK alts some = some x → ∃ n, exec P cl hs' kb n (piece P f0 id) st (fun e st => some (e, cutSt ts ks st)) = some x) : CutLaw P kb (piece P f0 id) f :=
  cutLaw_of hcl (drawSound hP.mixed hcl) (hc.inner h1) ts ks h

/-! ### Functions -/
theorem callOk_of {cl : Oracle} {hs : Hint} {kb n : Nat} {f : FuncId} {args : List V} {mem : AL Obj} {r : Res} (hP : ProgOk P) (hcl : OracleOk P cl) (hlo : AllCuts P hs.los kb f) (hk : mem.length = kb)
    (h : body P cl hs n f args mem = some r) : CallOk P f args mem r := by
  subst hk
  exact (body_sound hP hcl (drawSound hP.mixed hcl) hlo.loops h).1
def entersB (P : Program) (f : FuncId) : Bool :=
  match P.funcs[f]? with
  | some fn => !fn.body.isNone && !(fn.name == "runtime.NumGoroutine")
  | none => false
theorem enters_of {f : FuncId} (h : entersB P f = true) : Enters P f := by
  unfold entersB at h
  split at h
  · rename_i fn hfn
    simp only [Bool.and_eq_true, Bool.not_eq_true'] at h
    exact ⟨fn, hfn, h.1, h.2⟩
  · cases h
def progB (P : Program) : Bool := P.follows .mixedOrders && P.funcs.toList.all fun fn => match fn.body with
  | some c => okC fn.ntmps c && !(fn.name == "runtime.NumGoroutine")
  | none => true
theorem progOk_of (h : progB P = true) : ProgOk P := by
  unfold progB at h
  simp only [Bool.and_eq_true, List.all_eq_true] at h
  refine ⟨h.1, fun f fn c hfn hc => ?_, fun f fn hfn hb => ?_⟩
  · have := h.2 fn (by simpa using Array.mem_of_getElem? hfn)
    rw [hc] at this
    simp only [Bool.and_eq_true] at this
    exact this.1
  · have := h.2 fn (by simpa using Array.mem_of_getElem? hfn)
    cases hc : fn.body with
    | none => rw [hc] at hb; cases hb
    | some c =>
      rw [hc] at this
      simp only [Bool.and_eq_true, Bool.not_eq_true'] at this
      exact this.2
end
end Go.AM
