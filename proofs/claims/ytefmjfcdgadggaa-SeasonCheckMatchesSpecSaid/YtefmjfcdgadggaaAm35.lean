/- The abstract machine: shapes of states, and what is told of a piece by its shape. -/
import Derived.Test.YtefmjfcdgadggaaAm34
set_option linter.all false
namespace Go.AM
open Go

/-! ### Leaves -/
inductive Lf where
  | i (n : Int)
  | b (x : Bool)
  | s (x : List UInt8)
  | l (xs : List D)
  | d (x : D)
  | m (es : List (D × D))
  | n (k : Nat)
def nthL : List Lf → Nat → Option Lf
  | [], _ => none
  | x :: _, 0 => some x
  | _ :: r, k + 1 => nthL r k
def li (L : List Lf) (k : Nat) : Int := match nthL L k with | some (.i x) => x | _ => 0
def lb (L : List Lf) (k : Nat) : Bool := match nthL L k with | some (.b x) => x | _ => false
def ls (L : List Lf) (k : Nat) : List UInt8 := match nthL L k with | some (.s x) => x | _ => []
def ll (L : List Lf) (k : Nat) : List D := match nthL L k with | some (.l x) => x | _ => []
def ld (L : List Lf) (k : Nat) : D := match nthL L k with | some (.d x) => x | _ => .i 0
def lm (L : List Lf) (k : Nat) : List (D × D) := match nthL L k with | some (.m x) => x | _ => []
def ln (L : List Lf) (k : Nat) : Nat := match nthL L k with | some (.n x) => x | _ => 0
/-! ### Shapes -/
inductive HC where
  | u
  | i (k : IntKind)
  | b
  | k (x : Bool)
  | s
  | sl (e : TypeId)
  | nils
  | nov
  | p (key off : Nat)
  | el (e : TypeId) (off : Nat)
  | re (key : Nat) (e : TypeId) (off : Nat)
  | pi (key base len esz off : Nat)
  | o (key : Nat)
  | m (key : Nat)
  | f (fn : FuncId) (caps : List (Nat × Nat))
inductive HV where
  | c (x : HC)
  | g (xs : List HC)
inductive HO where
  | box (cs : List HC)
  | row (e : TypeId) (excl : Bool)
  | map (kt vt : TypeId)
structure Sh where
  tmps : AL HV
  mem : AL HO
def eqCaps : List (Nat × Nat) → List (Nat × Nat) → Bool
  | [], [] => true
  | (a, b) :: r, (c, d) :: s => Nat.beq a c && Nat.beq b d && eqCaps r s
  | _, _ => false
def fitC : HC → C → Bool
  | .u, .u => true
  | .i k, .i k' _ => k == k'
  | .b, .b _ => true
  | .k x, .k y => x == y
  | .s, .s _ => true
  | .sl e, .sl e' _ _ => Nat.beq e e'
  | .nils, .v (.slice none 0 0) => true
  | .nov, .v v => isNo v
  | .p k o, .p k' o' => Nat.beq k k' && Nat.beq o o'
  | .el e o, .el e' _ o' => Nat.beq e e' && Nat.beq o o'
  | .re k e o, .re k' e' _ o' => Nat.beq k k' && Nat.beq e e' && Nat.beq o o'
  | .pi k b l e o, .pi k' b' l' e' _ o' => Nat.beq k k' && Nat.beq b b' && Nat.beq l l' && Nat.beq e e' && Nat.beq o o'
  | .o k, .o k' => Nat.beq k k'
  | .m k, .m k' => Nat.beq k k'
  | .f fn caps, .f fn' caps' => Nat.beq fn fn' && eqCaps caps caps'
  | _, _ => false
def fitCs : List HC → List C → Bool
  | [], [] => true
  | x :: xs, y :: ys => fitC x y && fitCs xs ys
  | _, _ => false
def fitV : HV → V → Bool
  | .c x, .c y => fitC x y
  | .g xs, .g ys => fitCs xs ys
  | _, _ => false
def fitO : HO → Obj → Bool
  | .box xs, .box ys => fitCs xs ys
  | .row e ex, .row e' ex' _ _ => Nat.beq e e' && (ex == ex')
  | .map kt vt, .map kt' vt' _ => Nat.beq kt kt' && Nat.beq vt vt'
  | _, _ => false
def fitAL {α β : Type} (f : α → β → Bool) : AL α → AL β → Bool
  | [], [] => true
  | (k, x) :: r, (k', y) :: s => Nat.beq k k' && f x y && fitAL f r s
  | _, _ => false
def fitSt (sh : Sh) (st : St) : Bool := fitAL fitV sh.tmps st.tmps && fitAL fitO sh.mem st.mem
/-! ### What lies at the leaves -/
def lvC : C → List Lf
  | .i _ n => [.i n]
  | .b x => [.b x]
  | .s x => [.s x]
  | .sl _ n xs => [.b n, .l xs]
  | .el _ d _ => [.d d]
  | .re _ _ ix _ => [.n ix]
  | .pi _ _ _ _ ix _ => [.n ix]
  | _ => []
def lvCs : List C → List Lf
  | [] => []
  | c :: r => lvC c ++ lvCs r
def lvV : V → List Lf
  | .c x => lvC x
  | .g xs => lvCs xs
  | _ => []
def lvO : Obj → List Lf
  | .box cs => lvCs cs
  | .row _ _ n xs => [.b n, .l xs]
  | .map _ _ es => [.m es]
def lvAL {α : Type} (f : α → List Lf) : AL α → List Lf
  | [] => []
  | (_, x) :: r => f x ++ lvAL f r
def lvSt (st : St) : List Lf := lvAL lvV st.tmps ++ lvAL lvO st.mem
/-! ### A state out of its shape and its leaves -/
def mkCh (L : List Lf) (n : Nat) : HC → C × Nat
  | .u => (.u, n)
  | .i k => (.i k (li L n), n + 1)
  | .b => (.b (lb L n), n + 1)
  | .k x => (.k x, n)
  | .s => (.s (ls L n), n + 1)
  | .sl e => (.sl e (lb L n) (ll L (n + 1)), n + 2)
  | .nils => (.v (.slice none 0 0), n)
  | .nov => (.v (.tuple #[]), n)
  | .p k o => (.p k o, n)
  | .el e o => (.el e (ld L n) o, n + 1)
  | .re k e o => (.re k e (ln L n) o, n + 1)
  | .pi k b l e o => (.pi k b l e (ln L n) o, n + 1)
  | .o k => (.o k, n)
  | .m k => (.m k, n)
  | .f fn caps => (.f fn caps, n)
def mkChs (L : List Lf) : Nat → List HC → List C × Nat
  | n, [] => ([], n)
  | n, x :: r => ((mkCh L n x).1 :: (mkChs L (mkCh L n x).2 r).1, (mkChs L (mkCh L n x).2 r).2)
def mkVh (L : List Lf) (n : Nat) : HV → V × Nat
  | .c x => (.c (mkCh L n x).1, (mkCh L n x).2)
  | .g xs => (.g (mkChs L n xs).1, (mkChs L n xs).2)
def mkOh (L : List Lf) (n : Nat) : HO → Obj × Nat
  | .box xs => (.box (mkChs L n xs).1, (mkChs L n xs).2)
  | .row e ex => (.row e ex (lb L n) (ll L (n + 1)), n + 2)
  | .map kt vt => (.map kt vt (lm L n), n + 1)
def mkALh {α β : Type} (f : Nat → α → β × Nat) : Nat → AL α → AL β × Nat
  | n, [] => ([], n)
  | n, (k, x) :: r => ((k, (f n x).1) :: (mkALh f (f n x).2 r).1, (mkALh f (f n x).2 r).2)
def ofSh (sh : Sh) (L : List Lf) : St :=
  { tmps := (mkALh (mkVh L) 0 sh.tmps).1, mem := (mkALh (mkOh L) (mkALh (mkVh L) 0 sh.tmps).2 sh.mem).1 }
theorem nthL_at : ∀ (pre : List Lf) (x : Lf) (post : List Lf), nthL (pre ++ x :: post) pre.length = some x
  | [], _, _ => rfl
  | _ :: r, x, post => nthL_at r x post
theorem nthL_at1 (pre : List Lf) (x y : Lf) (post : List Lf) : nthL (pre ++ x :: y :: post) (pre.length + 1) = some y := by
  have := nthL_at (pre ++ [x]) y post
  simpa using this
theorem eqCaps_eq : ∀ {a b : List (Nat × Nat)}, eqCaps a b = true → a = b
  | [], [], _ => rfl
  | (a, b) :: r, (c, d) :: s, h => by
    simp only [eqCaps, Bool.and_eq_true] at h
    rw [Nat.eq_of_beq_eq_true h.1.1, Nat.eq_of_beq_eq_true h.1.2, eqCaps_eq h.2]
  | [], _ :: _, h => by cases h
  | _ :: _, [], h => by cases h
theorem isNo_eq {v : Value} (h : isNo v = true) : v = .tuple #[] := by
  unfold isNo at h
  split at h
  · rename_i vs
    have : vs = #[] := Array.eq_empty_of_size_eq_zero (Nat.eq_of_beq_eq_true h)
    rw [this]
  · cases h
theorem mkCh_eq {sh : HC} {c : C} (h : fitC sh c = true) (pre post : List Lf) : mkCh (pre ++ (lvC c ++ post)) pre.length sh = (c, pre.length + (lvC c).length) := by
  unfold fitC at h
  split at h <;> (try simp only [Bool.and_eq_true] at h)
  · rfl
  · have := eq_of_beq h; subst this; simp [mkCh, lvC, li, nthL_at]
  · simp [mkCh, lvC, lb, nthL_at]
  · have := eq_of_beq h; subst this; rfl
  · simp [mkCh, lvC, ls, nthL_at]
  · have := Nat.eq_of_beq_eq_true h; subst this; simp [mkCh, lvC, lb, ll, nthL_at, nthL_at1]
  · rfl
  · have := isNo_eq h; subst this; rfl
  · have e1 := Nat.eq_of_beq_eq_true h.1; have e2 := Nat.eq_of_beq_eq_true h.2; subst e1 e2; rfl
  · have e1 := Nat.eq_of_beq_eq_true h.1; have e2 := Nat.eq_of_beq_eq_true h.2; subst e1 e2; simp [mkCh, lvC, ld, nthL_at]
  · have e1 := Nat.eq_of_beq_eq_true h.1.1; have e2 := Nat.eq_of_beq_eq_true h.1.2; have e3 := Nat.eq_of_beq_eq_true h.2; subst e1 e2 e3; simp [mkCh, lvC, ln, nthL_at]
  · obtain ⟨⟨⟨⟨h1, h2⟩, h3⟩, h4⟩, h5⟩ := h
    have e1 := Nat.eq_of_beq_eq_true h1; have e2 := Nat.eq_of_beq_eq_true h2; have e3 := Nat.eq_of_beq_eq_true h3; have e4 := Nat.eq_of_beq_eq_true h4; have e5 := Nat.eq_of_beq_eq_true h5
    subst e1 e2 e3 e4 e5; simp [mkCh, lvC, ln, nthL_at]
  · have := Nat.eq_of_beq_eq_true h; subst this; rfl
  · have := Nat.eq_of_beq_eq_true h; subst this; rfl
  · have e1 := Nat.eq_of_beq_eq_true h.1; have e2 := eqCaps_eq h.2; subst e1 e2; rfl
  · cases h
theorem mkChs_eq : ∀ {sh : List HC} {cs : List C}, fitCs sh cs = true → ∀ (pre post : List Lf), mkChs (pre ++ (lvCs cs ++ post)) pre.length sh = (cs, pre.length + (lvCs cs).length)
  | [], [], _, pre, post => rfl
  | x :: xs, y :: ys, h, pre, post => by
    simp only [fitCs, Bool.and_eq_true] at h
    have h1 := mkCh_eq h.1 pre (lvCs ys ++ post)
    have h2 := mkChs_eq h.2 (pre ++ lvC y) post
    simp only [List.length_append, List.append_assoc] at h2
    simp only [mkChs, lvCs, List.append_assoc, h1, h2, List.length_append, Nat.add_assoc]
  | [], _ :: _, h, _, _ => by cases h
  | _ :: _, [], h, _, _ => by cases h
theorem mkVh_eq {sh : HV} {v : V} (h : fitV sh v = true) (pre post : List Lf) : mkVh (pre ++ (lvV v ++ post)) pre.length sh = (v, pre.length + (lvV v).length) := by
  cases sh <;> cases v <;> first | (simp [fitV] at h; done) | skip
  · simp only [mkVh, lvV, mkCh_eq (show fitC _ _ = true from h)]
  · simp only [mkVh, lvV, mkChs_eq (show fitCs _ _ = true from h)]
theorem mkOh_eq {sh : HO} {o : Obj} (h : fitO sh o = true) (pre post : List Lf) : mkOh (pre ++ (lvO o ++ post)) pre.length sh = (o, pre.length + (lvO o).length) := by
  cases sh <;> cases o <;> first | (simp [fitO] at h; done) | skip
  · simp only [mkOh, lvO, mkChs_eq (show fitCs _ _ = true from h)]
  · simp only [fitO, Bool.and_eq_true] at h
    have e1 := Nat.eq_of_beq_eq_true h.1; have e2 := eq_of_beq h.2
    subst e1 e2
    simp [mkOh, lvO, lb, ll, nthL_at, nthL_at1]
  · simp only [fitO, Bool.and_eq_true] at h
    have e1 := Nat.eq_of_beq_eq_true h.1; have e2 := Nat.eq_of_beq_eq_true h.2
    subst e1 e2
    simp [mkOh, lvO, lm, nthL_at]
theorem mkALh_eq {α β : Type} {fit : α → β → Bool} {lv : β → List Lf} {mk : List Lf → Nat → α → β × Nat} (hf : ∀ sh x, fit sh x = true → ∀ pre post, mk (pre ++ (lv x ++ post)) pre.length sh = (x, pre.length + (lv x).length)) :
    ∀ {sh : AL α} {l : AL β}, fitAL fit sh l = true → ∀ (pre post : List Lf), mkALh (mk (pre ++ (lvAL lv l ++ post))) pre.length sh = (l, pre.length + (lvAL lv l).length)
  | [], [], _, pre, post => rfl
  | (k, x) :: xs, (k', y) :: ys, h, pre, post => by
    simp only [fitAL, Bool.and_eq_true] at h
    have e := Nat.eq_of_beq_eq_true h.1.1
    subst e
    have h1 := hf x y h.1.2 pre (lvAL lv ys ++ post)
    have h2 := mkALh_eq hf h.2 (pre ++ lv y) post
    simp only [List.length_append, List.append_assoc] at h2
    simp only [mkALh, lvAL, List.append_assoc, h1, h2, List.length_append, Nat.add_assoc]
  | [], _ :: _, h, _, _ => by cases h
  | _ :: _, [], h, _, _ => by cases h
theorem ofSh_eq {sh : Sh} {st : St} (h : fitSt sh st = true) : ofSh sh (lvSt st) = st := by
  unfold fitSt at h
  simp only [Bool.and_eq_true] at h
  have h1 := mkALh_eq (lv := lvV) (mk := mkVh) (fun _ _ h pre post => mkVh_eq h pre post) h.1 [] (lvAL lvO st.mem)
  have h2 := mkALh_eq (lv := lvO) (mk := mkOh) (fun _ _ h pre post => mkOh_eq h pre post) h.2 (lvAL lvV st.tmps) []
  simp only [List.nil_append, List.length_nil, Nat.zero_add, List.append_nil] at h1 h2
  unfold ofSh lvSt
  rw [h1]
  simp only
  rw [h2]
/-! ### Told by shape -/
def loSh {α : Type} (sh : Sh) (A : List Lf → List (Bool × α)) (st : St) : Option (List (Bool × α)) := bif fitSt sh st then some (A (lvSt st)) else none
theorem loSh_law {α : Type} {sh : Sh} {A : List Lf → List (Bool × α)} {Q : St → α → Prop} (h : ∀ L x, altK (A L) some = some x → Q (ofSh sh L) x) : ∀ st alts, loSh sh A st = some alts → ∀ x, altK alts some = some x → Q st x := by
  intro st alts ha x hx
  unfold loSh at ha
  cases hf : fitSt sh st with
  | false => rw [hf] at ha; cases ha
  | true =>
    rw [hf] at ha
    simp only [cond_true, Option.some.injEq] at ha
    subst ha
    rw [← ofSh_eq hf]
    exact h _ x hx
def valsOf : AL V → List V
  | [] => []
  | (_, x) :: r => x :: valsOf r
theorem valsOf_params : ∀ (i : Nat) (args : List V), valsOf (params i args) = args
  | _, [] => rfl
  | i, x :: r => by simp only [params, valsOf, valsOf_params]
def spSh (sh : Sh) (A : List Lf → List (Bool × Res)) (args : List V) (mem : AL Obj) : Option (List (Bool × Res)) := loSh sh A ⟨params 0 args, mem⟩
theorem spSh_law {sh : Sh} {A : List Lf → List (Bool × Res)} {P : Program} {f : FuncId} (h : ∀ L x, altK (A L) some = some x → CallOk P f (valsOf (ofSh sh L).tmps) (ofSh sh L).mem x) : ∀ args mem alts, spSh sh A args mem = some alts → ∀ res, altK alts some = some res → CallOk P f args mem res := by
  intro args mem alts ha res hr
  have := loSh_law (Q := fun st x => CallOk P f (valsOf st.tmps) st.mem x) h ⟨params 0 args, mem⟩ alts ha res hr
  simpa only [valsOf_params] using this
/-! ### Sums -/
def sumE {A B R : Type} (k : A → R) (g : B → R) : Sum A B → R
  | .inl a => k a
  | .inr b => g b
def inlB {A B : Type} : Option (Sum A B) → Bool
  | some (.inl _) => true
  | _ => false
def inlV {A B : Type} [Inhabited A] : Option (Sum A B) → A
  | some (.inl a) => a
  | _ => default
def inrQ {A B : Type} : Option (Sum A B) → Option B
  | some (.inr b) => some b
  | _ => none
theorem alt0 {R : Type} (x y : R) (h : altK [(true, y)] some = some x) : some y = some x := h
theorem alt1 {A R : Type} [Inhabited A] {q : Option A} {f : A → R} (x : R) (h : altK [(q.isSome, f (q.getD default))] some = some x) : q.bind (fun p => some (f p)) = some x := by
  cases q with
  | none => cases h
  | some a => exact h
theorem altS {A B R : Type} [Inhabited A] {q : Option (Sum A B)} {f : A → R} {rest : List (Bool × R)} {g : B → Option R} (h : ∀ x, altK rest some = some x → (inrQ q).bind g = some x) (x : R)
    (hx : altK ((inlB q, f (inlV q)) :: rest) some = some x) : q.bind (sumE (fun a => some (f a)) g) = some x := by
  match q, hx with
  | none, hx => exact h x hx
  | some (.inl a), hx => exact hx
  | some (.inr b), hx => exact h x hx
end Go.AM
namespace Go.AM
open Go
/-! ### Loops, a round at a time -/
def loopB : Code → Code
  | .loop b => b
  | c => c
def reK {R : Type} (kn : St → Option R) (k : Ex → St → Option R) : Ex → St → Option R := fun e st => match e with
  | .normal => kn st
  | e => k e st
theorem exec_loop {R : Type} {P : Program} {cl : Oracle} {hs : Hint} {kb n id : Nat} {b : Code} {st : St} {k : Ex → St → Option R} (hl : lawOf hs (.loop b) = none) (hid : 3 * firstId b = id) :
    exec P cl hs kb (n + 1) (.loop b) st k = exec P cl hs kb n b (clearSt P kb hs.loops id st) (reK (fun st => exec P cl hs kb n (.loop b) (clearSt P kb hs.loops id st) k) k) := by
  subst hid
  simp only [exec, hl]
  congr 1
theorem loop_round {R : Type} {P : Program} {cl : Oracle} {hs : Hint} {kb n id : Nat} {b : Code} {st : St} {k : Ex → St → Option R} {E : (St → Option R) → Option R} {x : R} (hl : lawOf hs (.loop b) = none) (hid : 3 * firstId b = id) (hc : clearSt P kb hs.loops id st = st)
    (hs' : ∀ kn : St → Option R, exec P cl hs kb n b st (reK (fun s => kn (clearSt P kb hs.loops id s)) k) = E kn) (h : E (fun s => exec P cl hs kb n (.loop b) s k) = some x) : exec P cl hs kb (n + 1) (.loop b) st k = some x := by
  rw [exec_loop hl hid, hc, hs' (fun s => exec P cl hs kb n (.loop b) s k), h]
theorem law_sh {P : Program} {cl : Oracle} {hs : Hint} {kb f id n : Nat} {a b : List Nat} {sh : Sh} {A : List Lf → List (Bool × (Ex × St))} (hP : ProgOk P) (hcl : OracleOk P cl) (hal : AllCuts P hs.los kb f) (h1 : oneB P f id = true)
    (h : ∀ L x, altK (A L) some = some x → exec P cl hs kb n (piece P f id) (ofSh sh L) (fun e st => some (e, cutSt a b st)) = some x) : CutLaw P kb (piece P f id) (loSh sh A) :=
  law_of hP hcl hal h1 a b (loSh_law (Q := fun st x => ∃ n, exec P cl hs kb n (piece P f id) st (fun e st => some (e, cutSt a b st)) = some x) fun L x hx => ⟨n, h L x hx⟩)
theorem law_shL {P : Program} {cl : Oracle} {hs : Hint} {kb f id n : Nat} {a b : List Nat} {sh : Sh} {A : List Lf → List (Bool × (Ex × St))} {q : List Lf → St} (hP : ProgOk P) (hcl : OracleOk P cl) (hal : AllCuts P hs.los kb f) (h1 : oneB P f id = true)
    (hlp : piece P f id = .loop (loopB (piece P f id))) (hq : ∀ L, ofSh sh L = q L) (h : ∀ L x, altK (A L) some = some x → exec P cl hs kb n (.loop (loopB (piece P f id))) (q L) (fun e st => some (e, cutSt a b st)) = some x) : CutLaw P kb (piece P f id) (loSh sh A) :=
  law_sh (n := n) hP hcl hal h1 fun L x hx => by rw [hlp, hq L]; exact h L x hx
end Go.AM
