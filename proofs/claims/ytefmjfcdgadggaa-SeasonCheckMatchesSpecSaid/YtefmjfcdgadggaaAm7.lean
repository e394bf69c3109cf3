/- The abstract machine: binary and unary operators. -/
import Derived.Test.YtefmjfcdgadggaaAm6
set_option linter.all false
namespace Go.AM
open Go

section
variable {P : Program} {env : Env} {S : Stab} {w : World}
theorem run_bitsV {op : BinOp} {k : IntKind} {a b n : Int} (h : bitsV op k a b = some n) : (Op.intBits op k a b).run P w = .ok (.int k n) w := by
  unfold bitsV at h
  cases op <;> simp only at h <;> first | (cases h; done) | (simp only [Option.some.injEq] at h; subst h; simp [Op.intBits])
theorem binI_sound {op : BinOp} {T : TypeId} {k : IntKind} {a b : Int} {c : C} (h1 : op ≠ .shl) (h2 : op ≠ .shr) (h : binI op k a b = some (true, c)) : ∃ v, (binOp op T (.int k a) (.int k b)).run P w = .ok v w ∧ CRel P env S w c v := by
  have hb : ∀ {op : BinOp} {n : Int}, bitsV op k a b = some n → (binOp op T (.int k a) (.int k b)).run P w = (Op.intBits op k a b).run P w := by
    intro op n hn
    cases op <;> first | (cases hn; done) | simp [binOp]
  cases op <;> simp only [binI] at h
  case shl => exact absurd rfl h1
  case shr => exact absurd rfl h2
  case quo =>
    simp only [Option.some.injEq, Prod.mk.injEq, Bool.not_eq_true', beq_eq_false_iff_ne] at h
    obtain ⟨h, rfl⟩ := h
    exact ⟨_, by simp [binOp, Op.intDiv, h], rfl⟩
  case rem =>
    simp only [Option.some.injEq, Prod.mk.injEq, Bool.not_eq_true', beq_eq_false_iff_ne] at h
    obtain ⟨h, rfl⟩ := h
    exact ⟨_, by simp [binOp, Op.intDiv, h], rfl⟩
  case and => split at h <;> first | (cases h; done) | (rename_i n hn; simp only [Option.some.injEq, Prod.mk.injEq, true_and] at h; subst h; exact ⟨_, (hb hn).trans (run_bitsV hn), rfl⟩)
  case or => split at h <;> first | (cases h; done) | (rename_i n hn; simp only [Option.some.injEq, Prod.mk.injEq, true_and] at h; subst h; exact ⟨_, (hb hn).trans (run_bitsV hn), rfl⟩)
  case xor => split at h <;> first | (cases h; done) | (rename_i n hn; simp only [Option.some.injEq, Prod.mk.injEq, true_and] at h; subst h; exact ⟨_, (hb hn).trans (run_bitsV hn), rfl⟩)
  case andNot => split at h <;> first | (cases h; done) | (rename_i n hn; simp only [Option.some.injEq, Prod.mk.injEq, true_and] at h; subst h; exact ⟨_, (hb hn).trans (run_bitsV hn), rfl⟩)
  all_goals
    simp only [Option.some.injEq, Prod.mk.injEq, true_and] at h
    subst h
    exact ⟨_, by simp [binOp, Op.intArith, Op.intCmp], rfl⟩
theorem shiftV_sound {op : BinOp} {T : TypeId} {k k' : IntKind} {a b : Int} {c : C} (h : shiftV op k a b = some (true, c)) : ∃ v, (binOp op T (.int k a) (.int k' b)).run P w = .ok v w ∧ CRel P env S w c v := by
  cases op <;> simp only [shiftV] at h <;> try (cases h; done)
  all_goals
    simp only [Option.some.injEq, Prod.mk.injEq, decide_eq_true_eq] at h
    obtain ⟨h, rfl⟩ := h
    exact ⟨_, by simp [binOp, Op.shift, show ¬ b < 0 by omega], rfl⟩
theorem binS_sound {op : BinOp} {T : TypeId} {x y : List UInt8} {c : C} (h : binS op x y = some (true, c)) : ∃ v, (binOp op T (.string ⟨x.toArray⟩) (.string ⟨y.toArray⟩)).run P w = .ok v w ∧ CRel P env S w c v := by
  have e0 : (binOp op T (.string ⟨x.toArray⟩) (.string ⟨y.toArray⟩)) = Op.stringOp op ⟨x.toArray⟩ ⟨y.toArray⟩ := by cases op <;> rfl
  rw [e0]
  cases op <;> simp only [binS] at h <;> try (cases h; done)
  case add =>
    simp only [Option.some.injEq, Prod.mk.injEq, decide_eq_true_eq] at h
    obtain ⟨h, rfl⟩ := h
    refine ⟨.string ⟨(x ++ y).toArray⟩, ?_, rfl⟩
    have : ¬ (((ByteArray.mk x.toArray).size + (ByteArray.mk y.toArray).size : Nat) : Int) > IntKind.i64.max := by
      rw [size_mk, size_mk]
      have : IntKind.i64.max = 9223372036854775807 := by decide
      rw [this]; unfold strMax at h; omega
    simp only [Op.stringOp, if_neg this, append_mk, Sem.run_pure]
  all_goals
    simp only [Option.some.injEq, Prod.mk.injEq, true_and] at h
    subst h
    exact ⟨_, by simp only [Op.stringOp, toList_mk, Sem.run_pure], rfl⟩
theorem eqGuard_plain (op : BinOp) (T : TypeId) (x y : Operand) (vx vy : Value) (h : (∃ k a, vx = .int k a) ∨ (∃ s, vx = .string s) ∨ (∃ b, vx = .bool b) ∨ (∃ a n c, vx = .slice a n c)) : (eqGuard op T x y vx vy).run P w = .ok () w := by
  unfold eqGuard
  rcases h with ⟨k, a, rfl⟩ | ⟨s, rfl⟩ | ⟨b, rfl⟩ | ⟨a, n, c, rfl⟩ <;> cases op <;> simp
theorem cells2_ofT {T : TypeId} {x y : V} {vx vy : Value} {a b : List C} (hx : VRel P env S w x vx) (hy : VRel P env S w y vy) (h : cells2 P T x y = some (a, b)) : ofT P env S w T a vx ∧ ofT P env S w T b vy := by
  unfold cells2 at h
  cases ha : isAggB P T with
  | true =>
    rw [ha] at h
    simp only [cond_true] at h
    split at h
    · simp only [Option.some.injEq, Prod.mk.injEq] at h
      obtain ⟨rfl, rfl⟩ := h
      exact ⟨.inl ⟨ha, hx⟩, .inl ⟨ha, hy⟩⟩
    · cases h
  | false =>
    rw [ha] at h
    simp only [cond_false] at h
    split at h
    · simp only [Option.some.injEq, Prod.mk.injEq] at h
      obtain ⟨rfl, rfl⟩ := h
      exact ⟨.inr ⟨ha, _, rfl, hx⟩, .inr ⟨ha, _, rfl, hy⟩⟩
    · cases h
theorem ofT_shape {n : Nat} {T : TypeId} {xs ys : List C} {r : Bool} {vx vy : Value} (h : eqT P n T xs ys = some r) (hx : ofT P env S w T xs vx) (hy : ofT P env S w T ys vy) :
    (∃ us vs, vx = .agg us ∧ vy = .agg vs) ∨ (∃ k a b, vx = .int k a ∧ vy = .int k b ∧ r = (a == b)) ∨ (∃ a b : List UInt8, vx = .string ⟨a.toArray⟩ ∧ vy = .string ⟨b.toArray⟩ ∧ r = (a == b)) ∨ (∃ a b, vx = .bool a ∧ vy = .bool b ∧ r = (a == b)) := by
  cases n with
  | zero => simp [eqT] at h
  | succ n =>
    simp only [eqT] at h
    have one : isAggB P T = false → ∀ c, ofT P env S w T [c] vx → CRel P env S w c vx := fun ha c h => ofT_one ha h
    split at h
    · rename_i k hu
      have ha : isAggB P T = false := by unfold isAggB; rw [hu]
      obtain ⟨k', a, b, rfl, rfl, rfl⟩ := eqInt_sound h
      exact .inr (.inl ⟨k', a, b, ofT_one ha hx, ofT_one ha hy, rfl⟩)
    · rename_i hu
      have ha : isAggB P T = false := by unfold isAggB; rw [hu]
      obtain ⟨c, e, a, b, rfl, rfl, h3, h4, rfl⟩ := eqBool_sound h
      exact .inr (.inr (.inr ⟨a, b, boolC_sound h3 (ofT_one ha hx), boolC_sound h4 (ofT_one ha hy), rfl⟩))
    · rename_i hu
      have ha : isAggB P T = false := by unfold isAggB; rw [hu]
      obtain ⟨a, b, rfl, rfl, rfl⟩ := eqStr_sound h
      exact .inr (.inr (.inl ⟨a, b, ofT_one ha hx, ofT_one ha hy, rfl⟩))
    all_goals first
      | (cases h; done)
      | (rename_i hu
         have ha : isAggB P T = true := by unfold isAggB; rw [hu]
         rcases hx with ⟨_, us, rfl, _⟩ | ⟨hx, _⟩
         · rcases hy with ⟨_, vs, rfl, _⟩ | ⟨hy, _⟩
           · exact .inl ⟨us, vs, rfl, rfl⟩
           · rw [ha] at hy; cases hy
         · rw [ha] at hx; cases hx)
theorem eqV_sound {T : TypeId} {x y : V} {vx vy : Value} {r : Bool} {ox oy : Operand} (hx : VRel P env S w x vx) (hy : VRel P env S w y vy) (h : eqV P T x y = some r) :
    (do eqGuard .eql T ox oy vx vy; binOp .eql T vx vy : Sem Value).run P w = .ok (.bool r) w ∧ (do eqGuard .neq T ox oy vx vy; binOp .neq T vx vy : Sem Value).run P w = .ok (.bool (!r)) w := by
  unfold eqV at h
  cases hg : P.eqGuardType P.depth T with
  | true => rw [hg] at h; cases h
  | false =>
    rw [hg] at h
    simp only [cond_false] at h
    split at h
    · rename_i a b hc
      obtain ⟨h1, h2⟩ := cells2_ofT hx hy hc
      have h3 := eqT_sound 12 T a b r vx vy h h1 h2 Op.maxDepth (by decide)
      rcases ofT_shape h h1 h2 with ⟨us, vs, rfl, rfl⟩ | ⟨k, a, b, rfl, rfl, rfl⟩ | ⟨a, b, rfl, rfl, rfl⟩ | ⟨a, b, rfl, rfl, rfl⟩
      · have g := fun op => run_eqGuard_agg (P := P) w op T ox oy us vs hg
        unfold Op.maxDepth at h3
        refine ⟨?_, ?_⟩ <;> simp only [Sem.run_bind, g, Result.andThen_ok] <;> simp [run_eql_struct, run_neq_struct, h3]
      · have g := fun op => eqGuard_plain (P := P) (w := w) op T ox oy (.int k a) (.int k b) (.inl ⟨k, a, rfl⟩)
        refine ⟨?_, ?_⟩ <;> simp only [Sem.run_bind, g, Result.andThen_ok] <;> simp [binOp, Op.intCmp, bne]
      · have g := fun op => eqGuard_plain (P := P) (w := w) op T ox oy (.string ⟨a.toArray⟩) (.string ⟨b.toArray⟩) (.inr (.inl ⟨_, rfl⟩))
        refine ⟨?_, ?_⟩ <;> simp only [Sem.run_bind, g, Result.andThen_ok, binOp, Op.stringOp, toList_mk, Sem.run_pure]
      · have g := fun op => eqGuard_plain (P := P) (w := w) op T ox oy (.bool a) (.bool b) (.inr (.inr (.inl ⟨_, rfl⟩)))
        unfold Op.maxDepth at h3
        refine ⟨?_, ?_⟩ <;> simp only [Sem.run_bind, g, Result.andThen_ok, binOp, Op.equal, Op.maxDepth, h3, Sem.run_pure]
    · cases h
theorem binV_sound {op : BinOp} {T : TypeId} {x y : V} {vx vy : Value} {c : C} {ox oy : Operand} (hx : VRel P env S w x vx) (hy : VRel P env S w y vy) (h : binV P op T x y = some (true, c)) :
    ∃ v, (do eqGuard op T ox oy vx vy; binOp op T vx vy : Sem Value).run P w = .ok v w ∧ CRel P env S w c v := by
  unfold binV at h
  split at h
  · rename_i k a k' b
    simp only [VRel, CRel] at hx hy
    subst hx hy
    have g := eqGuard_plain (P := P) (w := w) op T ox oy (.int k a) (.int k' b) (.inl ⟨k, a, rfl⟩)
    simp only [Sem.run_bind, g, Result.andThen_ok]
    split at h
    · exact shiftV_sound h
    · exact shiftV_sound h
    · rename_i n1 n2
      cases hk : k == k' with
      | false => rw [hk] at h; cases h
      | true =>
        rw [hk] at h
        have := eq_of_beq hk
        subst this
        exact binI_sound (fun e => n1 e) (fun e => n2 e) h
  · simp only [VRel, CRel] at hx hy
    subst hx hy
    have g := fun a b => eqGuard_plain (P := P) (w := w) op T ox oy (.string a) (.string b) (.inr (.inl ⟨_, rfl⟩))
    simp only [Sem.run_bind, g, Result.andThen_ok]
    exact binS_sound h
  · rename_i e n xs
    cases hs : isSliceB P T with
    | false => rw [hs] at h; cases h
    | true =>
      rw [hs] at h
      simp only [cond_true] at h
      unfold isSliceB at hs
      have hu : ∃ e', P.underlying T = some (.slice e') := by
        split at hs
        · rename_i e' hu; exact ⟨e', hu⟩
        · cases hs
      obtain ⟨e', hu⟩ := hu
      have hy' : vy = .slice none 0 0 := hy
      subst hy'
      have hn : ∃ a len cap, vx = .slice a len cap ∧ a.isNone = n := by
        cases (show RepD P w S (.sl e) (.l n xs) vx from hx) with
        | nil e d h1 h2 => exact ⟨_, _, _, rfl, h1.symm⟩
        | emp e d a cap h1 => exact ⟨_, _, _, rfl, h1.symm⟩
        | sl e d b off cap cv h1 => exact ⟨_, _, _, rfl, h1.symm⟩
      obtain ⟨a, len, cap, rfl, hn⟩ := hn
      have g := fun op => eqGuard_plain (P := P) (w := w) op T ox oy (.slice a len cap) (.slice none 0 0) (.inr (.inr (.inr ⟨_, _, _, rfl⟩)))
      have heq1 : ∀ d, (Op.equalIn (d + 1) T (.slice a len cap) (.slice none 0 0)).run P w = .ok n w := by
        intro d
        cases a with
        | none => simp only [Op.equalIn, Sem.run_bind, run_underlying hu, Result.andThen_ok, Sem.run_pure, Option.isNone_none]; rw [← hn]; rfl
        | some a => simp only [Op.equalIn, Sem.run_bind, run_underlying hu, Result.andThen_ok, Sem.run_pure]; rw [← hn]; rfl
      have heq : (Op.equalIn 10000 T (.slice a len cap) (.slice none 0 0)).run P w = .ok n w := heq1 9999
      cases op <;> simp only at h <;> try (cases h; done)
      all_goals
        simp only [Option.some.injEq, Prod.mk.injEq, true_and] at h
        subst h
        exact ⟨_, by simp only [Sem.run_bind, g, Result.andThen_ok, binOp, Op.equal, Op.maxDepth, heq, Sem.run_pure], rfl⟩
  · cases op <;> simp only at h <;> try (cases h; done)
    all_goals
      split at h
      · rename_i r hr
        simp only [Option.some.injEq, Prod.mk.injEq, true_and] at h
        subst h
        obtain ⟨h1, h2⟩ := eqV_sound (ox := ox) (oy := oy) hx hy hr
        first | exact ⟨_, h1, rfl⟩ | exact ⟨_, h2, rfl⟩
      · cases h
theorem unV_sound {op : UnOp} {x : V} {vx : Value} {c : C} (hx : VRel P env S w x vx) (h : unV op x = some c) : ∃ v, (Op.unary op vx).run P w = .ok v w ∧ CRel P env S w c v := by
  unfold unV at h
  split at h <;> try (cases h; done)
  · simp only [Option.some.injEq] at h; simp only [VRel, CRel] at hx; subst h hx; exact ⟨_, by simp [Op.unary], rfl⟩
  · simp only [Option.some.injEq] at h; simp only [VRel, CRel] at hx; subst h hx; exact ⟨_, by simp [Op.unary], rfl⟩
  · simp only [Option.some.injEq] at h; simp only [VRel, CRel] at hx; subst h hx; exact ⟨_, by simp only [Op.unary, Op.intArith, Sem.run_pure], rfl⟩
  · split at h
    · rename_i r hr
      simp only [Option.some.injEq] at h; simp only [VRel, CRel] at hx; subst h hx
      exact ⟨_, by simp only [Op.unary]; exact run_bitsV hr, rfl⟩
    · cases h
end
end Go.AM
