/- The abstract machine: every operation that leaves the memory alone, joined. -/
import Derived.Test.YtefmjfcdgadggaaAm11
set_option linter.all false
namespace Go.AM
open Go

section
variable {P : Program} {env : Env} {S : Stab} {w : World} {mem : AL Obj}
theorem coe_rel {T : TypeId} {x : V} {v : Value} (h : VRel P env S w x v) : VRel P env S w (coe P T x) v := by
  unfold coe
  split
  · split
    · have hv : v = .slice none 0 0 := h
      subst hv
      exact RepD.nil _ _ rfl rfl
    · exact h
  · exact h
theorem toB_rel {a : Act} {x : V} {b : Bool} {v : Value} (hx : VRelA P env S w a x v) (h : toB x = some b) : v = .bool b := by
  unfold toB at h
  split at h <;> first | (cases h; done) | (simp only [Option.some.injEq] at h; subst h; exact hx)
theorem capsM_sound {e : Operand → V} {a : Act} (he : ∀ x, VRel P env S w (e x) (a.eval x)) : ∀ {xs : List Operand} {cs : List (Nat × Nat)}, xs.mapM (fun x => match e x with | .c (.p k n) => some (k, n) | _ => none) = some cs → xs.map a.eval = cs.map (capV env)
  | [], cs, h => by simp at h; subst h; rfl
  | x :: xs, cs, h => by
    rw [List.mapM_cons] at h
    cases hx : e x with
    | c c =>
      cases c with
      | p k n =>
        rw [hx] at h
        cases hr : xs.mapM (fun x => match e x with | .c (.p k n) => some (k, n) | _ => none) with
        | none => simp [hr] at h
        | some r =>
          simp [hr] at h
          subst h
          have := he x
          rw [hx] at this
          simp only [List.map_cons]
          rw [capsM_sound he hr]
          congr 1
      | _ => rw [hx] at h; simp at h
    | _ => rw [hx] at h; simp at h
theorem partsE {e : Operand → V} {a : Act} (he : ∀ x, VRel P env S w (e x) (a.eval x)) (ps : List (Nat × Operand)) :
    All2 (fun (x : Nat × V) (y : Nat × Value) => x.1 = y.1 ∧ VRel P env S w x.2 y.2) (ps.map fun (i, x) => (i, e x)) (ps.map fun (i, x) => (i, a.eval x)) := by
  induction ps with
  | nil => trivial
  | cons p ps ih => exact ⟨⟨rfl, he p.2⟩, ih⟩
theorem val_sound (hob : ∀ key o, get mem key = some o → ObjRel P env S w (env key) o) (hst : RowsStable P env S mem) {e : Operand → V} {ew : Nat → Bool → Operand → V} {a : Act} (he : ∀ x, VRel P env S w (e x) (a.eval x))
    (hew : ∀ t b x, yieldsA a t b → VRelA P env S w a (ew t b x) (a.eval x)) {o : Oper} {x : V} (h : valOp P mem e ew o = some (true, x)) :
    ∃ v, (execOp a.eval o).run P w = .ok (.value v) w ∧ VRel P env S w x v := by
  unfold valOp at h
  simp only at h
  have wrap : ∀ {s : Sem Value} {v : Value}, s.run P w = .ok v w → (do pure (.value (← s)) : Sem Next).run P w = .ok (.value v) w := by
    intro s v hs
    simp only [Sem.run_bind, hs, Result.andThen_ok, Sem.run_pure]
  cases ho : o.op <;> rw [ho] at h <;> (try simp only at h) <;> try (cases h; done)
  case move y =>
    simp only [Option.some.injEq, Prod.mk.injEq, true_and] at h
    subst h
    exact ⟨_, by simp only [execOp, ho, Sem.run_pure], coe_rel (he y)⟩
  case assign y =>
    simp only [Option.some.injEq, Prod.mk.injEq, true_and] at h
    subst h
    exact ⟨_, by simp only [execOp, ho, Sem.run_pure], coe_rel (he y)⟩
  case pick c y z =>
    split at h
    · rename_i b hc
      simp only [Option.some.injEq, Prod.mk.injEq, true_and] at h
      subst h
      have hcv : a.eval c = .bool b := by have := he c; rw [hc] at this; exact this
      refine ⟨if b then a.eval y else a.eval z, ?_, ?_⟩
      · simp only [execOp, ho, hcv, asBool, Sem.run_bind, Sem.run_pure, Result.andThen_ok]
      · cases b with
        | true => exact he y
        | false => exact he z
    · rename_i b hc
      have hcv : a.eval c = .bool b := by have := he c; rw [hc] at this; exact this
      split at h
      · rename_i t
        split at h
        · rename_i by' bz hy hz
          simp only [Option.some.injEq, Prod.mk.injEq, true_and] at h
          subst h
          have hyield : yieldsA a t b := by
            unfold yieldsA
            have : a.tmps.getD t undef = .bool b := hcv
            rw [Array.getD_eq_getD_getElem?] at this
            cases ht : a.tmps[t]? with
            | none => rw [ht] at this; cases this
            | some u => rw [ht] at this; exact congrArg some this
          refine ⟨if b then a.eval y else a.eval z, ?_, ?_⟩
          · simp only [execOp, ho, hcv, asBool, Sem.run_bind, Sem.run_pure, Result.andThen_ok]
          · cases b with
            | true => exact toB_rel (hew t true y hyield) hy
            | false => exact toB_rel (hew t false z hyield) hz
        · cases h
      · cases h
    · cases h
  case build t parts =>
    obtain ⟨_, h⟩ := sure_some h
    obtain ⟨v, h1, h2⟩ := buildV_sound (vps := parts.map fun (i, x) => (i, a.eval x)) (by rw [Array.toList_map]; exact partsE he parts.toList) h
    exact ⟨v, by simp only [execOp, ho]; exact wrap h1, h2⟩
  case load t y =>
    obtain ⟨ad, v, h1, h2, h3⟩ := loadV_sound hob (he y) h
    refine ⟨v, ?_, h3⟩
    simp only [execOp, ho]
    exact wrap (by simp only [Instr.loadAt, h1, Instr.sureAddr, Sem.run_bind, Sem.run_pure, Result.andThen_ok, h2])
  case nilCheck y =>
    have hy := he y
    split at h <;> (try (cases h; done)) <;> rename_i hey <;> rw [hey] at hy <;> simp only [Option.some.injEq, Prod.mk.injEq, true_and] at h <;> subst h
    · refine ⟨_, ?_, hy⟩
      simp only [execOp, ho, show a.eval y = _ from hy, Sem.run_pure]
    · obtain ⟨b, off, h1, h2⟩ := hy
      refine ⟨_, ?_, b, off, h1, h2⟩
      simp only [execOp, ho, h1, Sem.run_pure]
    · refine ⟨_, ?_, hy⟩
      simp only [execOp, ho, show a.eval y = _ from hy, Sem.run_pure]
    · refine ⟨_, ?_, hy⟩
      simp only [execOp, ho, hy.2.2, Sem.run_pure]
    · refine ⟨_, ?_, hy⟩
      simp only [execOp, ho, show a.eval y = _ from hy, Sem.run_pure]
  case binOp op t y z yt =>
    split at h
    · rename_i b c hb
      simp only [Option.some.injEq, Prod.mk.injEq] at h
      obtain ⟨rfl, rfl⟩ := h
      obtain ⟨v, h1, h2⟩ := binV_sound (ox := y) (oy := z) (he y) (he z) hb
      exact ⟨v, by simp only [execOp, ho]; exact wrap h1, h2⟩
    · cases h
  case unOp op t y =>
    split at h
    · rename_i c hc
      simp only [Option.some.injEq, Prod.mk.injEq, true_and] at h
      subst h
      obtain ⟨v, h1, h2⟩ := unV_sound (he y) hc
      exact ⟨v, by simp only [execOp, ho]; exact wrap h1, h2⟩
    · cases h
  case convert s d y =>
    have hy := he y
    split at h
    · rename_i k0 k kk n hs hd hey
      rw [hey] at hy
      simp only [Option.some.injEq, Prod.mk.injEq, true_and] at h
      subst h
      refine ⟨.int k (k.wrap n), ?_, rfl⟩
      simp only [execOp, ho, show a.eval y = .int kk n from hy]
      refine wrap ?_
      simp only [convert, Sem.run_bind, run_underlying hs, run_underlying hd, Result.andThen_ok, Conv.intToInt, Sem.run_pure]
    · rename_i l hs hd hey
      rw [hey] at hy
      simp only [Option.some.injEq, Prod.mk.injEq, true_and] at h
      subst h
      refine ⟨.string ⟨l.toArray⟩, ?_, rfl⟩
      simp only [execOp, ho, show a.eval y = .string ⟨l.toArray⟩ from hy]
      refine wrap ?_
      simp only [convert, Sem.run_bind, run_underlying hs, run_underlying hd, Result.andThen_ok, Sem.run_pure]
    · cases h
  case makeFunc fn first caps =>
    split at h
    · rename_i f hf
      split at h
      · rename_i cs hcs
        simp only [Option.some.injEq, Prod.mk.injEq, true_and] at h
        subst h
        have hfe : first = #[] := by
          cases first; simp at hf; subst hf; rfl
        subst hfe
        refine ⟨.func (.func f) #[] (caps.map a.eval), ?_, ?_⟩
        · simp only [execOp, ho]
          exact wrap (by simp [Instr.makeFunc])
        · show _ = _
          congr 1
          apply Array.ext'
          rw [Array.toList_map, capsM_sound he hcs]
      · cases h
    · cases h
  case slice t y lo hi mx =>
    cases mx with
    | some m => simp only at h; cases h
    | none =>
      simp only at h
      have opt : ∀ q : Option Operand, (q.map e = none ∧ q.map a.eval = none) ∨ ∃ l v, q.map e = some l ∧ q.map a.eval = some v ∧ VRelA P env S w a l v := by
        intro q
        cases q with
        | none => exact .inl ⟨rfl, rfl⟩
        | some q => exact .inr ⟨_, _, rfl, rfl, VRelA.of (he q)⟩
      obtain ⟨v, h1, h2⟩ := sliceV_sound (he y) (opt lo) (opt hi) h
      exact ⟨v, by simp only [execOp, ho, Option.map_none]; exact wrap h1, h2⟩
  case fieldAddr s y f =>
    split at h
    · rename_i n hn
      obtain ⟨_, h⟩ := sure_some h
      obtain ⟨b, off, h1, h2⟩ := addOff_sound (he y) h
      refine ⟨_, ?_, h2⟩
      unfold fieldOff at hn
      split at hn
      · rename_i fs hu
        split at hn
        · rename_i fd hfd
          cases hz : Nat.beq (sizeB P fd.type) 0 with
          | true => rw [hz] at hn; cases hn
          | false =>
            rw [hz] at hn
            simp only [cond_false, Option.some.injEq] at hn
            subst hn
            have hne : sizeB P fd.type ≠ 0 := by rw [beq_eq'] at hz; simpa using hz
            simp only [execOp, ho]
            exact wrap (by simp only [Instr.fieldAt, Sem.run_bind, run_underlying hu, Result.andThen_ok, hfd, h1, Instr.sureAddr, Sem.run_pure, run_fieldPlace hne])
        · cases hn
      · cases hn
    · cases h
  case field t y f =>
    obtain ⟨_, h⟩ := sure_some h
    obtain ⟨v, h1, h2⟩ := fieldV_sound (he y) h
    exact ⟨v, by simp only [execOp, ho]; exact wrap h1, h2⟩
  case indexAddr t y i =>
    obtain ⟨v, h1, h2⟩ := indexAddrV_sound hob (he y) (he i) h
    exact ⟨v, by simp only [execOp, ho]; exact wrap h1, h2⟩
  case index t y i =>
    obtain ⟨v, h1, h2⟩ := indexV_sound (he y) (he i) h
    exact ⟨v, by simp only [execOp, ho]; exact wrap h1, h2⟩
  case lookup t y k ok =>
    obtain ⟨_, h⟩ := sure_some h
    obtain ⟨v, h1, h2⟩ := lookupV_sound hob hst (he y) (he k) h
    exact ⟨v, by simp only [execOp, ho]; exact wrap h1, h2⟩
  case extract y i =>
    have hy := he y
    split at h
    · rename_i vs hey
      rw [hey] at hy
      split at h
      · rename_i x' hx'
        simp only [Option.some.injEq, Prod.mk.injEq, true_and] at h
        subst h
        obtain ⟨us, h1, h2⟩ := hy
        obtain ⟨u, h3, h4⟩ := h2.get hx'
        have h3' : us[i]? = some u := by simpa using h3
        refine ⟨u, ?_, ?_⟩
        · simp only [execOp, ho, h1]
          exact wrap (by simp only [Instr.extract, h3', Sem.run_pure])
        · cases x' <;> first | exact h4 | exact h4.elim
      · cases h
    · cases h
  case call c =>
    obtain ⟨callee, args, tys⟩ := c
    simp only at h
    cases callee with
    | value f => simp only at h; cases h
    | invoke r m => simp only at h; cases h
    | builtin bi =>
      have run1 : ∀ v, (builtin bi tys o.type (args.map fun | .const _ => true | _ => false) (args.map a.eval)).run P w = .ok (.value v) w → (execOp a.eval o).run P w = .ok (.value v) w := by
        intro v hv
        simp only [execOp, ho, resolve, Sem.run_bind, Sem.run_pure, Result.andThen_ok, invoke]
        exact hv
      cases bi <;> (try simp only at h) <;> try (cases h; done)
      case len =>
        split at h
        · rename_i y T hargs htys
          split at h
          · rename_i n hn
            simp only [Option.some.injEq, Prod.mk.injEq, true_and] at h
            subst h
            have e1 : args = #[y] := by cases args; simp at hargs; subst hargs; rfl
            have e2 : tys = #[T] := by cases tys; simp at htys; subst htys; rfl
            subst e1 e2
            refine ⟨.int .i64 n, run1 _ ?_, rfl⟩
            have := lenV_sound (ty := o.type) hob (VRelA.of (a := a) (he y)) hn
            simp only [builtin]
            exact wrap (by simpa using this)
          · cases h
        · cases h
      case max =>
        split at h
        · rename_i k b r hargs
          obtain ⟨_, h⟩ := sure_some h
          have hl : ∀ (l : List Operand), l.map e = .c (.i k b) :: r → ∃ y l', l = y :: l' ∧ a.eval y = .int k b ∧ All2 (VRelA P env S w a) r (l'.map a.eval) := by
            intro l hl
            cases l with
            | nil => cases hl
            | cons y l' =>
              simp only [List.map_cons, List.cons.injEq] at hl
              have := he y
              rw [hl.1] at this
              refine ⟨y, l', rfl, this, ?_⟩
              rw [← hl.2]
              clear hl this hargs h
              induction l' with
              | nil => trivial
              | cons z l' ih => exact ⟨VRelA.of (he z), ih⟩
          obtain ⟨y, l', h1, h2, h3⟩ := hl _ hargs
          obtain ⟨v, h4, h5⟩ := foldI_sound (f := Builtin.max2) (fun k x y => rfl) h3 h
          refine ⟨v, run1 _ ?_, h5⟩
          simp only [builtin]
          refine wrap ?_
          have : (args.map a.eval).toList = .int k b :: l'.map a.eval := by rw [Array.toList_map, h1, List.map_cons, h2]
          simp only [Builtin.max_, this]
          exact h4
        · cases h
      case min =>
        split at h
        · rename_i k b r hargs
          obtain ⟨_, h⟩ := sure_some h
          have hl : ∀ (l : List Operand), l.map e = .c (.i k b) :: r → ∃ y l', l = y :: l' ∧ a.eval y = .int k b ∧ All2 (VRelA P env S w a) r (l'.map a.eval) := by
            intro l hl
            cases l with
            | nil => cases hl
            | cons y l' =>
              simp only [List.map_cons, List.cons.injEq] at hl
              have := he y
              rw [hl.1] at this
              refine ⟨y, l', rfl, this, ?_⟩
              rw [← hl.2]
              clear hl this hargs h
              induction l' with
              | nil => trivial
              | cons z l' ih => exact ⟨VRelA.of (he z), ih⟩
          obtain ⟨y, l', h1, h2, h3⟩ := hl _ hargs
          obtain ⟨v, h4, h5⟩ := foldI_sound (f := Builtin.min2) (fun k x y => rfl) h3 h
          refine ⟨v, run1 _ ?_, h5⟩
          simp only [builtin]
          refine wrap ?_
          have : (args.map a.eval).toList = .int k b :: l'.map a.eval := by rw [Array.toList_map, h1, List.map_cons, h2]
          simp only [Builtin.min_, this]
          exact h4
        · cases h
end
end Go.AM
