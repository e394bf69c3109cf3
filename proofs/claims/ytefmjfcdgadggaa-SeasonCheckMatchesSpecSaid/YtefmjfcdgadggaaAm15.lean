/- The abstract machine: operations that change the memory. -/
import Derived.Test.YtefmjfcdgadggaaAm14
set_option linter.all false
namespace Go.AM
open Go

section
variable {P : Program} {N n0 kb : Nat} {F : Nat → Prop} {B M0 : Stab} {w0 : World} {e0 env : Env} {st : St} {a : Act} {w : World}
/-- What is asked behind an operation. -/
def After {R : Type} (P : Program) (N n0 : Nat) (B M0 : Stab) (w0 : World) (F : Nat → Prop) (e0 : Env) (k : St → Option R) (r : R) (a : Act) (w : World) : Prop :=
  ∃ env st, Rel P N n0 B M0 w0 F e0 env st a w ∧ k st = some r
theorem wp_value {o : Oper} {K : Act → World → Prop} {Q : Exit → Act → World → Prop} {v : Value} {w' : World} (h : (execOp a.eval o).run P w = .ok (.value v) w') (hk : K (a.put o.dst v) w') : o.wp P a w K Q := by
  unfold Oper.wp; rw [h]; exact hk
theorem wp_skip' {o : Oper} {K : Act → World → Prop} {Q : Exit → Act → World → Prop} {w' : World} (h : (execOp a.eval o).run P w = .ok .skip w') (hk : K (a.put o.dst undef) w') : o.wp P a w K Q := by
  unfold Oper.wp; rw [h]; exact hk
theorem run_newVar {T : TypeId} {v : Value} : (newVar T v).run P w = .ok ⟨w.heap.size, 0, none⟩ (push w (.cells v.cells T)) := by
  simp [newVar, newRow, push]
theorem All2.self_take {α β : Type} {R : α → β → Prop} {xs : List α} {ys : List β} (h : All2 R xs ys) : All2 R xs ((ys.drop 0).take xs.length) := by
  rw [List.drop_zero, h.length, List.take_length]; exact h
theorem alloc_sound {R : Type} {d : Nat} {T : TypeId} {z : List C} {k : St → Option R} {r : R} {o : Oper} {Q : Exit → Act → World → Prop} (h : Rel P N n0 B M0 w0 F e0 env st a w) (hd : d < N) (hF : ¬ F (kb + d)) (ho : o.op = .alloc T) (hdst : o.dst = some d)
    (hz : zeroV P T = some z) (hk : k ((fresh (kb + d) (.box z) st).put (some d) (.c (.p (kb + d) 0))) = some r) : o.wp P a w (After P N n0 B M0 w0 F e0 k r) Q := by
  obtain ⟨i, v, _, _, _, hrun, _⟩ := zeroV_sound (env := env) (S := Sof P B M0 n0 env st.mem w) (w := w) hz
  refine wp_value (v := .pointer (some ⟨w.heap.size, 0, none⟩)) (w' := push w (.cells v.cells T)) ?_ ?_
  · simp only [execOp, ho, Sem.run_bind, Instr.alloc, hrun, Result.andThen_ok, run_newVar, Sem.run_pure]
  · have hnb := Rel.newBlock h (mem0 := st.mem) (fun _ _ hg => hg) (kb + d) hF (.box z) none (.cells v.cells T) (chg_push _ w _) rfl fun S' hkeep => by
      obtain ⟨i', v', hi', hz', hr', _, _⟩ := zeroV_sound (env := upd env (kb + d) ⟨w.heap.size, 0, none⟩) (S := S') (w := push w (.cells v.cells T)) hz
      obtain ⟨i2, v2, hi2, hz2, _, hrun2, _⟩ := zeroV_sound (env := env) (S := S') (w := w) hz
      have hvv : v' = v := by
        rw [hrun] at hrun2
        have : v = v2 := by simpa using hrun2
        rw [hi'] at hi2; simp only [Option.some.injEq] at hi2; subst hi2
        rw [hz'] at hz2; simp only [Option.some.injEq] at hz2
        rw [hz2, ← this]
      subst hvv
      exact ⟨v'.cells, T, push_new, by have := hr'.length; simp at this ⊢; omega, hr'.self_take⟩
    rw [hdst]
    refine ⟨_, _, hnb.put (v := .pointer (some ⟨w.heap.size, 0, none⟩)) (fun _ hdd => by cases hdd; exact hd) ?_, hk⟩
    simp [VRelA, VRel, CRel, upd]
theorem box_sound {R : Type} {d : Nat} {T : TypeId} {x : Operand} {cs : List C} {k : St → Option R} {r : R} {o : Oper} {Q : Exit → Act → World → Prop} (h : Rel P N n0 B M0 w0 F e0 env st a w) (hd : d < N) (hF : ¬ F (kb + d)) (ho : o.op = .box T x) (hdst : o.dst = some d)
    (hz : storeCellsV P T (evu st x) = some cs) (hk : k ((fresh (kb + d) (.box (cs.map (inval (kb + d)))) st).put (some d) (.c (.p (kb + d) 0))) = some r) : o.wp P a w (After P N n0 B M0 w0 F e0 k r) Q := by
  obtain ⟨h1, h2, h3, _⟩ := storeCellsV_sound (h.evu x) hz
  refine wp_value (v := .pointer (some ⟨w.heap.size, 0, none⟩)) (w' := push w (.cells (a.eval x).cells T)) ?_ ?_
  · simp only [execOp, ho, Sem.run_bind, Instr.box, Result.andThen_ok, run_newVar, Sem.run_pure]
  · have hnb := Rel.newBlock h (mem0 := st.mem) (fun _ _ hg => hg) (kb + d) hF (.box (cs.map (inval (kb + d)))) none (.cells (a.eval x).cells T) (chg_push _ w _) rfl fun S' hkeep => by
      have hl := h1.length
      refine ⟨(a.eval x).cells, T, push_new, by simp at hl ⊢; omega, ?_⟩
      have h1' : All2 (CRel P (upd env (kb + d) ⟨w.heap.size, 0, none⟩) S' (push w (.cells (a.eval x).cells T))) (cs.map (inval (kb + d))) (a.eval x).cells.toList :=
        h1.mapl fun c u _ hcu => CRel.inval hkeep (kb + d) (fun k hk => by simp [upd, hk]) hcu
      exact h1'.self_take
    rw [hdst]
    refine ⟨_, _, hnb.put (v := .pointer (some ⟨w.heap.size, 0, none⟩)) (fun _ hdd => by cases hdd; exact hd) ?_, hk⟩
    simp [VRelA, VRel, CRel, upd]

/-! ### Sharing -/
theorem Rel.share1 (h : Rel P N n0 B M0 w0 F e0 env st a w) (key : Nat) {o : Obj} (hg : get st.mem key = some o) : Rel P N n0 B M0 w0 F e0 env { st with mem := set st.mem key (shareO o) } a w := by
  cases o with
  | row e ex nl xs =>
    by_cases hn : nl = false
    · subst hn
      refine Rel.upd h hg (fun _ _ => False) (Chg.refl _ w) (fun _ _ hf => hf.elim) ?_ (fun _ => rfl) (fun _ _ => rfl) rfl ?_ ?_
      · intro b x hm
        obtain ⟨_, h1, h2⟩ := hm
        rcases h2 with h2 | h2
        · cases h2
        · exact ⟨rfl, h1, .inr h2⟩
      · intro S' hk
        exact row_mono hk (fun _ => rfl) (h.ob _ _ hg) false
      · intro e' ex' xs' he x hx
        simp only [shareO, Obj.row.injEq] at he
        obtain ⟨rfl, _, _, rfl⟩ := he
        exact h.pr key _ ex _ hg x hx
    · have hnt : nl = true := by cases nl <;> simp at hn ⊢
      subst hnt
      -- a nil row owns nothing
      have hget : ∀ k ob, get (set st.mem key (shareO (.row e ex true xs))) k = some ob → (k = key ∧ ob = .row e false true xs) ∨ (k ≠ key ∧ get st.mem k = some ob) := by
        intro k ob hgk
        rw [get_set] at hgk
        by_cases hk : k = key
        · rw [if_pos hk] at hgk; simp only [Option.some.injEq, shareO] at hgk; exact .inl ⟨hk, hgk.symm⟩
        · rw [if_neg hk] at hgk; exact .inr ⟨hk, hgk⟩
      refine Rel.step h (fun _ _ => False) (Chg.refl _ w) (fun _ _ hf => hf.elim) ?_ ?_ ?_ ?_ ?_ (fun _ _ => rfl)
      · intro k ob b x hgk hm
        rcases hget k ob hgk with ⟨rfl, rfl⟩ | ⟨_, hgk⟩
        · cases hm.1
        · exact .inr ⟨k, ob, hgk, hm⟩
      · intro hk t x hx; exact VRelA.mono hk (fun _ => rfl) (h.tm t x hx)
      · intro hk k ob hgk
        rcases hget k ob hgk with ⟨rfl, rfl⟩ | ⟨_, hgk⟩
        · exact row_mono hk (fun hf => by cases hf) (h.ob _ _ hg) false
        · exact obj_same hk (fun _ => rfl) (h.ob k ob hgk)
      · intro k k' o1 o2 hg1 hg2 hr1 hr2 hne
        rcases hget k o1 hg1 with ⟨rfl, rfl⟩ | ⟨_, q1⟩
        · cases hr1
        · rcases hget k' o2 hg2 with ⟨rfl, rfl⟩ | ⟨_, q2⟩
          · cases hr2
          · exact h.ds k k' o1 o2 q1 q2 hr1 hr2 hne
      · intro k e' ex' xs' hgk x hx
        rcases hget k _ hgk with ⟨rfl, he⟩ | ⟨_, q⟩
        · cases he
        · exact h.pr k e' ex' xs' q x hx
  | box cs =>
    refine Rel.upd h hg (fun _ _ => False) (Chg.refl _ w) (fun _ _ hf => hf.elim) (fun _ _ hm => hm) (fun hr => hr) (fun _ _ => rfl) trivial ?_ ?_
    · intro S' hk; exact obj_same hk (fun _ => rfl) (h.ob _ _ hg)
    · intro e ex xs he; cases he
  | map kt vt es =>
    refine Rel.upd h hg (fun _ _ => False) (Chg.refl _ w) (fun _ _ hf => hf.elim) (fun _ _ hm => hm) (fun hr => hr) (fun _ _ => rfl) trivial ?_ ?_
    · intro S' hk; exact obj_same hk (fun _ => rfl) (h.ob _ _ hg)
    · intro e ex xs he; cases he
theorem Rel.share : ∀ (ks : List Nat) {mem : AL Obj}, Rel P N n0 B M0 w0 F e0 env { st with mem := mem } a w → Rel P N n0 B M0 w0 F e0 env { st with mem := shareKeys mem ks } a w
  | [], _, h => h
  | k :: ks, mem, h => by
    simp only [shareKeys]
    cases hg : get mem k with
    | none => exact Rel.share ks h
    | some o => exact Rel.share ks (Rel.share1 h k hg)
theorem ev_mem (m : AL Obj) (x : Operand) : AM.ev { st with mem := m } x = AM.ev st x := by cases x <;> rfl
theorem evu_mem (m : AL Obj) (x : Operand) : AM.evu { st with mem := m } x = AM.evu st x := by unfold AM.evu; rw [ev_mem]
end
end Go.AM
