/- The abstract machine: how a state goes on standing for a state when memory changes. -/
import Derived.Test.YtefmjfcdgadggaaAm12
import Derived.Test.YtefmjfcdgadggaaAm2
set_option linter.all false
namespace Go.AM
open Go

section
variable {P : Program} {N n0 kb : Nat} {F : Nat → Prop} {B M0 : Stab} {w0 : World} {e0 env : Env} {st : St} {a : Act} {w : World}
abbrev Sst (P : Program) (B M0 : Stab) (n0 : Nat) (env : Env) (mem : AL Obj) (w : World) : Stab := Sof P B M0 n0 env mem w
theorem Rel.n0le (h : Rel P N n0 B M0 w0 F e0 env st a w) : n0 ≤ w.heap.size := by rw [h.hn0]; exact h.ch.size
theorem keeps_of {mem mem' : AL Obj} {env' : Env} {w' : World} {Mt : Stab} (hch : Chg Mt w w') (hMt : ∀ b o, Mt b o → ∃ k ob, get mem k = some ob ∧ MutO P (env k) ob b o)
    (hmut : ∀ k ob b o, get mem' k = some ob → MutO P (env' k) ob b o → w.heap.size ≤ b ∨ ∃ k' ob', get mem k' = some ob' ∧ MutO P (env k') ob' b o) :
    Keeps w (Sof P B M0 n0 env mem w) w' (Sof P B M0 n0 env' mem' w') := by
  intro b o v hS hv
  obtain ⟨h1, h2, h3⟩ := hS
  have hno : ¬ Mt b o := fun hm => let ⟨k, ob, g, m⟩ := hMt b o hm; h3 k ob g m
  refine ⟨⟨h1, Nat.lt_of_lt_of_le h2 hch.size, fun k ob hg hm => ?_⟩, hch.cell hv hno⟩
  rcases hmut k ob b o hg hm with h4 | ⟨k', ob', g, m⟩
  · omega
  · exact h3 k' ob' g m
theorem Rel.step (h : Rel P N n0 B M0 w0 F e0 env st a w) {env' : Env} {w' : World} {mem' : AL Obj} {tmps' : AL V} (Mt : Stab)
    (hch : Chg Mt w w') (hMt : ∀ b o, Mt b o → ∃ k ob, get st.mem k = some ob ∧ MutO P (env k) ob b o)
    (hmut : ∀ k ob b o, get mem' k = some ob → MutO P (env' k) ob b o → w.heap.size ≤ b ∨ ∃ k' ob', get st.mem k' = some ob' ∧ MutO P (env k') ob' b o)
    (htm : Keeps w (Sof P B M0 n0 env st.mem w) w' (Sof P B M0 n0 env' mem' w') → ∀ t x, get tmps' t = some x → VRelA P env' (Sof P B M0 n0 env' mem' w') w' a x (a.tmps.getD t undef))
    (hob : Keeps w (Sof P B M0 n0 env st.mem w) w' (Sof P B M0 n0 env' mem' w') → ∀ k ob, get mem' k = some ob → ObjRel P env' (Sof P B M0 n0 env' mem' w') w' (env' k) ob)
    (hds : ∀ k k' o o', get mem' k = some o → get mem' k' = some o' → realO o → realO o' → k ≠ k' → (env' k).blk ≠ (env' k').blk)
    (hpr : ∀ key e ex xs, get mem' key = some (.row e ex false xs) → ∀ o, o < xs.length * sizeB P e → B (env' key).blk o ∨ n0 ≤ (env' key).blk ∨ M0 (env' key).blk o)
    (hfx : ∀ k, F k → env' k = env k) :
    Rel P N n0 B M0 w0 F e0 env' { tmps := tmps', mem := mem' } a w' := by
  have hk := keeps_of (B := B) (M0 := M0) (n0 := n0) hch hMt hmut
  refine ⟨h.size, h.dfr, h.hn0, htm hk, hob hk, hds, ?_, hpr, ?_, h.bb, fun k hkb => (hfx k hkb).trans (h.fx k hkb)⟩
  · intro k ob b x hg hm
    rcases hmut k ob b x hg hm with h1 | ⟨k', ob', g, m⟩
    · exact .inr (Nat.le_trans h.n0le h1)
    · exact h.mu k' ob' b x g m
  · refine Chg.trans h.ch hch fun b o hm => ?_
    obtain ⟨k, ob, g, m⟩ := hMt b o hm
    rw [← h.hn0]
    exact h.mu k ob b o g m

/-! ### Slots -/
theorem size_put (a : Act) (dst : Option Nat) (v : Value) : (a.put dst v).tmps.size = a.tmps.size := by
  cases dst <;> simp [Act.put]
theorem dfr_put (a : Act) (dst : Option Nat) (v : Value) : (a.put dst v).defers = a.defers := by
  cases dst <;> simp [Act.put]
theorem getD_put_ne {a : Act} {d t : Nat} {v : Value} (h : t ≠ d) : (a.put (some d) v).tmps.getD t undef = a.tmps.getD t undef := by
  simp only [Act.put, Array.getD_eq_getD_getElem?, Array.getElem?_setIfInBounds]
  rw [if_neg (Ne.symm h)]
theorem getD_put_eq {a : Act} {d : Nat} {v : Value} (h : d < a.tmps.size) : (a.put (some d) v).tmps.getD d undef = v := by
  simp only [Act.put, Array.getD_eq_getD_getElem?, Array.getElem?_setIfInBounds]
  simp [h]
theorem yields_put_ne {a : Act} {d s : Nat} {v : Value} {b : Bool} (h : s ≠ d) : yieldsA (a.put (some d) v) s b ↔ yieldsA a s b := by
  unfold yieldsA
  simp only [Act.put, Array.getElem?_setIfInBounds]
  rw [if_neg (Ne.symm h)]
theorem vrelA_detag {S : Stab} {d : Nat} {v v' : Value} {x : V} (h : VRelA P env S w a x v) : VRelA P env S w (a.put (some d) v') (detag d x) v := by
  cases x with
  | w s b y =>
    simp only [detag, beq_eq']
    by_cases hs : s = d
    · rw [cond_true (by simpa using hs)]; trivial
    · rw [cond_false (by simpa using hs)]
      exact ⟨fun hy => h.1 ((yields_put_ne hs).1 hy), fun hy => h.2 fun h' => hy ((yields_put_ne hs).2 h')⟩
  | _ => exact h
theorem Rel.put (h : Rel P N n0 B M0 w0 F e0 env st a w) {dst : Option Nat} (hd : ∀ d, dst = some d → d < N) {x : V} {v : Value} (hx : VRelA P env (Sof P B M0 n0 env st.mem w) w a x v) :
    Rel P N n0 B M0 w0 F e0 env (st.put dst x) (a.put dst v) w := by
  cases dst with
  | none => exact h
  | some d =>
    refine ⟨by rw [size_put]; exact h.size, by rw [dfr_put]; exact h.dfr, h.hn0, ?_, h.ob, h.ds, h.mu, h.pr, h.ch, h.bb, h.fx⟩
    intro t y hy
    simp only [St.put, get_set] at hy
    by_cases ht : t = d
    · subst ht
      simp only [if_true, Option.some.injEq] at hy
      subst hy
      rw [getD_put_eq (by rw [h.size]; exact hd t rfl)]
      exact vrelA_detag hx
    · rw [if_neg ht, get_mapV] at hy
      cases hg : get st.tmps t with
      | none => rw [hg] at hy; cases hy
      | some z =>
        rw [hg] at hy
        simp only [Option.map_some, Option.some.injEq] at hy
        subst hy
        rw [getD_put_ne ht]
        exact vrelA_detag (h.tm t z hg)
theorem vrelA_u {S : Stab} {v : Value} : VRelA P env S w a (.c .u) v := trivial
theorem Rel.put_u (h : Rel P N n0 B M0 w0 F e0 env st a w) {dst : Option Nat} (hd : ∀ d, dst = some d → d < N) (v : Value) : Rel P N n0 B M0 w0 F e0 env (st.put dst (.c .u)) (a.put dst v) w := h.put hd vrelA_u

/-! ### Reading operands -/
theorem vrelA_untag {S : Stab} {x : V} {v : Value} (h : VRelA P env S w a x v) : VRel P env S w (untag x) v := by
  cases x <;> first | exact h | trivial
theorem Rel.ev (h : Rel P N n0 B M0 w0 F e0 env st a w) (x : Operand) : VRelA P env (Sof P B M0 n0 env st.mem w) w a (AM.ev st x) (a.eval x) := by
  cases x with
  | tmp t =>
    simp only [AM.ev, Act.eval]
    cases hg : get st.tmps t with
    | none => trivial
    | some y => exact h.tm t y hg
  | const v => exact VRelA.of (ofV_rel v)
  | global g => trivial
  | func f => exact rfl
theorem Rel.evu (h : Rel P N n0 B M0 w0 F e0 env st a w) (x : Operand) : VRel P env (Sof P B M0 n0 env st.mem w) w (AM.evu st x) (a.eval x) := vrelA_untag (h.ev x)
theorem vrelA_unwrap {S : Stab} {x : V} {v : Value} {t : Nat} {b : Bool} (hy : yieldsA a t b) (h : VRelA P env S w a x v) : VRelA P env S w a (unwrap t b x) v := by
  cases x with
  | w s want y =>
    simp only [unwrap]
    cases hc : Nat.beq s t && (want == b) with
    | false => trivial
    | true =>
      simp only [Bool.and_eq_true] at hc
      have h1 := Nat.eq_of_beq_eq_true hc.1
      have h2 := eq_of_beq hc.2
      subst h1 h2
      exact VRelA.of (h.1 hy)
  | _ => exact h
theorem Rel.evw (h : Rel P N n0 B M0 w0 F e0 env st a w) (t : Nat) (b : Bool) (x : Operand) (hy : yieldsA a t b) : VRelA P env (Sof P B M0 n0 env st.mem w) w a (AM.evw st t b x) (a.eval x) := vrelA_unwrap hy (h.ev x)
theorem Rel.rows (h : Rel P N n0 B M0 w0 F e0 env st a w) : RowsStable P env (Sof P B M0 n0 env st.mem w) st.mem := by
  intro key e xs hg o ho
  obtain ⟨h0, ⟨hn, _⟩ | ⟨_, _, cap, cur, h1, h2, _⟩⟩ := h.ob _ _ hg
  · cases hn
  · refine ⟨h.pr key e false xs hg o ho, (Array.getElem?_eq_some_iff.1 h2).1, fun k ob hk hm => ?_⟩
    by_cases hkk : k = key
    · subst hkk
      rw [hg] at hk
      simp only [Option.some.injEq] at hk
      subst hk
      obtain ⟨_, _, hm⟩ := hm
      rcases hm with hm | hm
      · cases hm
      · omega
    · have hr : realO ob ∧ (env k).blk = (env key).blk := by
        cases ob with
        | box cs => exact ⟨trivial, hm.1.symm⟩
        | row e' ex' nl' xs' => exact ⟨hm.1, hm.2.1.symm⟩
        | map kt vt es => exact ⟨trivial, hm.symm⟩
      exact h.ds k key ob _ hk hg hr.1 rfl hkk hr.2
end
end Go.AM
