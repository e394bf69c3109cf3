/- The statement of a range over a function, by the machine. -/
import Derived.Test.YtfkkcdapcgimlaaGreatDoorAm2
import Derived.ControlIn
import Derived.OrdersIn
import Derived.RangeFuncCalls
import Derived.Deep.LoopGhost
import Derived.Maps.RangeRun
import Derived.RangeFuncRecord
import Derived.CallsIn
import Derived.Orders
import Derived.KernelRfl
import Derived.ProofKit
import Derived.Carry
import Derived.ChangeSame
import Derived.IntWalk
import Derived.RangeFuncIn
import Derived.TacticsIn
set_option linter.all false
set_option maxRecDepth 100000
namespace Go.AM
open Go

section
variable {P : Program} {N n0 kb : Nat} {F : Nat → Prop} {B M0 : a0Q} {w0 : World} {e0 : b0H} {env : Env} {st : St} {a : Act} {w : World}
theorem d42 {a : Act} {t : Nat} {x : Bool} (h : a.tmps.getD t undef = .bool x) : a.tmps[t]? = some (.bool x) := by
 rw [f56] at h
 cases hg : a.tmps[t]? with
 | none => rw [hg] at h; cases h
 | some v => rw [hg] at h; simp only [Option.getD_some] at h; rw [h]
theorem a2U {t : Nat} {x want : Bool} (h : a.tmps.getD t undef = .bool x) : a1l a t want ↔ x = want := by
 unfold a1l
 rw [d42 h]
 simp
theorem a4L {t : Nat} {want : Bool} (h : a.tmps.getD t undef = undef) : ¬ a1l a t want := by
 intro hy
 unfold a1l at hy
 rw [f56, hy] at h
 cases h
theorem e5D {S : a0Q} {y : V} {z : Bool} {v : Value} (h : toB y = some z) (hv : a0G P env S w y v) : v = .bool z := by
 unfold toB at h
 split at h
 ·simp only [f5S] at h; subst h; exact hv
 ·simp only [f5S] at h; subst h; exact hv
 ·cases h
theorem b4p {v : Value} (h : d4r v = true) : v = undef := by
 unfold d4r at h
 split at h
 ·rename_i vs
  have hs := f5T h
  have : vs = #[] := Array.eq_empty_of_size_eq_zero hs
  rw [this]
  rfl
 ·cases h
theorem b5f (h : Rel P N n0 B M0 w0 F e0 env st a w) : ∀ {n t : Nat} {want c : Bool}, c9z st n t want = some c → (c = true ↔ a1l a t want)
 | 0, _, _, _, hy => by cases hy
 | n + 1, t, want, c, hy => by
  simp only [c9z] at hy
  split at hy
  ·rename_i x hg
   have hv : a.tmps.getD t undef = .bool x := h.tm t _ hg
   simp only [f5S] at hy
   rw [a2U hv, ← hy]
   simp
  ·rename_i x hg
   have hv : a.tmps.getD t undef = .bool x := h.tm t _ hg
   simp only [f5S] at hy
   rw [a2U hv, ← hy]
   simp
  ·rename_i s b y hg
   obtain ⟨h1, h2⟩ := h.tm t _ hg
   split at hy
   ·rename_i z c' hz hc
    simp only [f5S] at hy
    have ih := b5f h hc
    subst hy
    cases c' with
    | true =>
     rw [a2U (e5D hz (h1 (ih.1 rfl)))]
     simp
    | false =>
     have := a4L (want := want) (h2 fun hy => by have := ih.2 hy; cases this)
     simp [this]
   ·cases hy
  ·rename_i v hg
   cases hno : d4r v with
   | false => rw [hno] at hy; cases hy
   | true =>
    have hv : a.tmps.getD t undef = undef := (show _ = v from h.tm t _ hg).trans (b4p hno)
    rw [hno] at hy
    simp only [cond_true, f5S] at hy
    subst hy
    simp [a4L hv]
  ·cases hy
theorem c7x (h : Rel P N n0 B M0 w0 F e0 env st a w) {t : Nat} {want c : Bool} (hy : e0s st t want = some c) : (c = true ↔ a1l a t want) := by
 unfold e0s at hy
 split at hy
 ·rename_i x hg
  have hv : a.tmps.getD t undef = .bool x := h.tm t _ hg
  simp only [f5S] at hy
  rw [a2U hv, ← hy]
  simp
 ·rename_i v hg
  cases hno : d4r v with
  | false => rw [hno] at hy; cases hy
  | true =>
   have hv : a.tmps.getD t undef = undef := (show _ = v from h.tm t _ hg).trans (b4p hno)
   rw [hno] at hy
   simp only [cond_true, f5S] at hy
   subst hy
   simp [a4L hv]
 ·cases hy
theorem Rel.tmps (h : Rel P N n0 B M0 w0 F e0 env st a w) {tmps : AL V} (ht : ∀ t x, get tmps t = some x → a0w P env (Sof P B M0 n0 env st.mem w) w a x (a.tmps.getD t undef)) : Rel P N n0 B M0 w0 F e0 env { st with tmps } a w :=
 ⟨h.size, h.dfr, h.hn0, ht, h.ob, h.ds, h.mu, h.pr, h.ch, h.bb, h.fx, h.gi⟩
theorem c44 (h : Rel P N n0 B M0 w0 F e0 env st a w) {t : Nat} {x : Bool} (hv : a.tmps.getD t undef = .bool x) : Rel P N n0 B M0 w0 F e0 env (c4z t x st) a w := by
 refine h.tmps fun t' y hy => ?_
 rw [a2q] at hy
 by_cases ht : t' = t
 ·rw [if_pos ht] at hy
  simp only [f5S] at hy
  subst hy ht
  exact hv
 ·rw [if_neg ht, a1x] at hy
  cases hg : get st.tmps t' with
  | none => rw [hg] at hy; cases hy
  | some z =>
   rw [hg] at hy
   simp only [f6b, f5S] at hy
   subst hy
   have hz := h.tm t' z hg
   cases z with
   | w s b y =>
    simp only [d4s, a0v]
    by_cases hs : s = t
    ·subst hs
     rw [cond_true (by simp)]
     by_cases hb : b = x
     ·subst hb
      rw [cond_true (by simp)]
      exact a0w.of (hz.1 ((a2U hv).2 rfl))
     ·rw [cond_false (by simpa using hb)]
      exact hz.2 fun hy => hb ((a2U hv).1 hy).symm
    ·rw [cond_false (by simpa using hs)]
     exact hz
   | _ => exact hz
theorem a7R {R : Type} {r : R} : ∀ {n t : Nat} {want : Bool} {st : St} {yes no : St → Option R}, Rel P N n0 B M0 w0 F e0 env st a w → b7N n t want st yes no = some r →
  (a1l a t want ∧ ∃ st', Rel P N n0 B M0 w0 F e0 env st' a w ∧ yes st' = some r) ∨ (¬ a1l a t want ∧ ∃ st', Rel P N n0 B M0 w0 F e0 env st' a w ∧ no st' = some r)
 | 0, _, _, _, _, _, _, hg => by cases hg
 | n + 1, t, want, st, yes, no, h, hg => by
  simp only [b7N] at hg
  split at hg
  ·rename_i x hx
   have hv : a.tmps.getD t undef = .bool x := h.tm t _ hx
   rw [a2U hv]
   by_cases hw : x = want
   ·rw [cond_true (by simpa using hw)] at hg; exact .inl ⟨hw, st, h, hg⟩
   ·rw [cond_false (by simpa using hw)] at hg; exact .inr ⟨hw, st, h, hg⟩
  ·rename_i v hx
   cases hno : d4r v with
   | false => rw [hno] at hg; cases hg
   | true =>
    have hv : a.tmps.getD t undef = undef := (show _ = v from h.tm t _ hx).trans (b4p hno)
    rw [hno] at hg
    exact .inr ⟨a4L hv, st, h, hg⟩
  ·rename_i x hx
   have hv : a.tmps.getD t undef = .bool x := h.tm t _ hx
   rw [a2U hv]
   have hs := c44 h hv
   cases x <;> cases want <;> simp only [cond_true, cond_false] at hg
   ·exact .inl ⟨rfl, _, hs, hg⟩
   ·exact .inr ⟨by simp, _, hs, hg⟩
   ·exact .inr ⟨by simp, _, hs, hg⟩
   ·exact .inl ⟨rfl, _, hs, hg⟩
  ·rename_i s b y hx
   obtain ⟨_, h2⟩ := h.tm t _ hx
   rcases a7R h hg with ⟨h3, st', h4, h5⟩ | ⟨h3, st', h4, h5⟩
   ·exact a7R h4 h5
   ·exact .inr ⟨a4L (h2 h3), st', h4, h5⟩
  ·cases hg
theorem e33 {R : Type} {o : Oper} {k : St → Option R} {r : R} {Q : Exit → Act → World → Prop} {e : Operand → V} {ew : Nat → Bool → Operand → V} {x : V} (h : Rel P N n0 B M0 w0 F e0 env st a w)
  (he : ∀ x, a0G P env (Sof P B M0 n0 env st.mem w) w (e x) (a.eval x)) (hew : ∀ t b x, a1l a t b → a0w P env (Sof P B M0 n0 env st.mem w) w a (ew t b x) (a.eval x)) (hv : d4p P st.mem e ew o = some (true, x))
  (hk : ∀ v, a0G P env (Sof P B M0 n0 env st.mem w) w x v → a1d P N n0 B M0 w0 F e0 k r (a.put o.dst v) w) : o.wp P a w (a1d P N n0 B M0 w0 F e0 k r) Q := by
 obtain ⟨v, h1, h2⟩ := d4Q h.ob h.rows he hew hv
 exact a0X h1 (hk v h2)
theorem b8o {R : Type} {cl : a0f} (hcl : a0b P cl) {o : Oper} {k : St → Option R} {r : R} {Q : Exit → Act → World → Prop} (hF : ∀ k, a0I P kb o k = true → ¬ F k) (h : Rel P N n0 B M0 w0 F e0 env st a w) (hd : ∀ d, o.dst = some d → d < N) (hk : opC P cl kb o st k = some r) :
  o.wp P a w (a1d P N n0 B M0 w0 F e0 k r) Q := by
 unfold opC at hk
 cases hv : a2p P o with
 | false => rw [hv] at hk; exact d2B hcl hF hv h hd hk
 | true =>
  rw [hv] at hk
  simp only [cond_true] at hk
  split at hk
  ·rename_i c x hval
   cases c with
   | false => cases hk
   | true => exact e33 h h.evu h.evw hval fun v hvx => ⟨env, _, h.put hd (a0w.of hvx), hk⟩
  ·cases hk
theorem d43 (h : Rel P N n0 B M0 w0 F e0 env st a w) {t : Nat} {want : Bool} (hy : a1l a t want) (x : Operand) : a0G P env (Sof P B M0 n0 env st.mem w) w (evg st t want x) (a.eval x) := by
 unfold evg
 have hx := h.ev x
 split
 ·rename_i s b y he
  rw [he] at hx
  simp only [b99]
  cases hc : Nat.beq s t && (b == want) with
  | false => trivial
  | true =>
   simp only [f5U] at hc
   have h1 := f5T hc.1
   have h2 := eq_of_beq hc.2
   subst h1 h2
   exact hx.1 hy
 ·rename_i he
  cases hv : AM.ev st x with
  | w s b y => exact absurd hv (he s b y)
  | _ => rw [hv] at hx; exact hx
theorem d2C (h : Rel P N n0 B M0 w0 F e0 env st a w) {t : Nat} {want : Bool} (hy : a1l a t want) (t' : Nat) (w' : Bool) (x : Operand) (hy' : a1l a t' w') : a0w P env (Sof P B M0 n0 env st.mem w) w a (f4t st t want t' w' x) (a.eval x) := by
 unfold f4t
 have hx := h.ev x
 split
 ·rename_i s b y he
  rw [he] at hx
  cases hc : Nat.beq s t' && (b == w') with
  | true =>
   simp only [f5U] at hc
   have h1 := f5T hc.1
   have h2 := eq_of_beq hc.2
   subst h1 h2
   exact a0w.of (hx.1 hy')
  | false => exact b44 hy hx
 ·exact hx
theorem a5k {R : Type} {cl : a0f} (hcl : a0b P cl) {ops : Array Oper} {o : Oper} {k : St → Option R} {r : R} {Q : Exit → Act → World → Prop} (hF : ∀ k, a0I P kb o k = true → ¬ F k) (h : Rel P N n0 B M0 w0 F e0 env st a w) (hd : ∀ d, o.dst = some d → d < N) (hk : b4a P cl kb ops.toList o st k = some r) :
  if Region.wanted o (yielded ops a.tmps) then o.wp P a w (a1d P N n0 B M0 w0 F e0 k r) Q else a1d P N n0 B M0 w0 F e0 k r (a.put o.dst undef) w := by
 unfold b4a at hk
 split at hk
 ·rename_i hg
  rw [if_pos (by simp [Region.wanted, hg])]
  exact b8o hcl hF h hd hk
 ·rename_i j want hg
  split at hk
  ·cases hk
  ·rename_i t ht
   have hw : Region.wanted o (yielded ops a.tmps) = true ↔ a1l a t want := by
    unfold a8M at ht
    rw [Array.getElem?_toList] at ht
    simp only [Region.wanted, hg, yielded, ht, Option.bind_some, a1l]
    cases a.tmps[t]? with
    | none => simp
    | some v => cases v <;> simp
   have skip : ∀ {st' : St}, Rel P N n0 B M0 w0 F e0 env st' a w → k (st'.put o.dst d2f) = some r → a1d P N n0 B M0 w0 F e0 k r (a.put o.dst undef) w :=
    fun h' hk' => ⟨env, _, h'.put hd (show a0w P env _ w a d2f undef from rfl), hk'⟩
   split at hk
   ·rename_i x hx
    have := c7x h hx
    cases x with
    | true => rw [if_pos (hw.2 (this.1 rfl))]; exact b8o hcl hF h hd hk
    | false => rw [if_neg (fun hc => by have := this.2 (hw.1 hc); cases this)]; exact skip h hk
   ·cases hv : a2p P o with
    | true =>
     rw [hv] at hk
     simp only [cond_true] at hk
     split at hk
     ·rename_i c cond x hc hval
      have hyc := b5f h hc
      cases hb : (bif cond then true else !c) with
      | false => rw [hb] at hk; cases hk
      | true =>
       rw [hb] at hk
       by_cases hy : a1l a t want
       ·rw [if_pos (hw.2 hy)]
        have : c = true := hyc.2 hy
        subst this
        have : cond = true := by cases cond <;> simp at hb ⊢
        subst this
        exact e33 h (d43 h hy) (fun t' b' x' hy' => d2C h hy t' b' x' hy') hval fun v hvx => ⟨env, _, h.put hd (x := .w t want x) ⟨fun _ => hvx, fun hn => absurd hy hn⟩, hk⟩
       ·rw [if_neg (fun hc => hy (hw.1 hc))]
        exact ⟨env, _, h.put hd (x := .w t want x) ⟨fun hy' => absurd hy' hy, fun _ => rfl⟩, hk⟩
     ·cases hk
    | false =>
     rw [hv] at hk
     simp only [cond_false] at hk
     rcases a7R h hk with ⟨h1, st', h2, h3⟩ | ⟨h1, st', h2, h3⟩
     ·rw [if_pos (hw.2 h1)]; exact b8o hcl hF h2 hd h3
     ·rw [if_neg (fun hc => h1 (hw.1 hc))]; exact skip h2 h3
theorem b8p {o : Oper} {k : Nat} (h : a0I P kb o k = true) : kb ≤ k := by
 unfold a0I at h
 cases hv : a2p P o with
 | true => rw [hv] at h; cases h
 | false =>
 rw [hv, cond_false rfl] at h
 cases he : a07 o with
 | true =>
  rw [he, cond_true rfl] at h
  simp only [f5U] at h
  exact Nat.le_trans (c1Z _ _) (f54 h.1)
 | false =>
  rw [he, cond_false rfl] at h
  split at h
  ·have := f5T h; omega
  ·cases h
theorem b2g {o : Oper} (hF : ∀ k, F k → k < kb) : ∀ k, a0I P kb o k = true → ¬ F k := fun k h1 h2 => by
 have := b8p h1
 have := hF k h2
 omega
variable {n : Nat} {Fe : Fence}
def a8E (Fe : Fence) : Prop := Fe = Fence.wide ∨ ∃ l, Fe = Fence.wide.inRound l
theorem a8E.fn (h : a8E Fe) (f : FuncId) : Fe.fn f := by
 rcases h with rfl | ⟨l, rfl⟩ <;> trivial
theorem a8E.depth (h : a8E Fe) : Fe.depth.isSome = true → 1 ≤ n := by
 rcases h with rfl | ⟨l, rfl⟩ <;> exact fun h => by cases h
theorem a8E.calls (h : a8E Fe) {m : Nat} {f : FuncId} {args : Array Value} {w : World} {R : Ending → World → Prop} (hc : Calls P f args w R) : CallsIn Fe m P f args w R := by
 rcases h with rfl | ⟨l, rfl⟩
 ·exact callsIn_wide.2 hc
 ·exact CallsIn.inRound l (callsIn_wide.2 hc)
theorem b8q (hF : a8E Fe) {o : Oper} {K : Act → World → Prop} {Q : Exit → Act → World → Prop} (hd : Fe = Fence.wide ∨ ∀ c, o.op ≠ .defer c) (h : o.wp P a w K Q) : o.wpIn Fe n P a w K Q := by
 refine ⟨fun f _ => hF.fn f, ?_⟩
 have hsem : o.semAt Fe.round a.eval = execOp a.eval o := by
  rcases hd with rfl | hd
  ·rfl
  ·exact Oper.semAt_eq _ _ _ hd
 rw [hsem]
 unfold Oper.wp at h
 generalize (execOp a.eval o).run P w = r at h
 cases r with
 | ok x w' =>
  cases x with
  | enter f args => exact ⟨hF.depth, hF.calls h⟩
  | row row args =>
   refine ⟨hF.depth, fun c cs _ => ?_⟩
   obtain ⟨v, w'', r, s⟩ := h c cs
   refine ⟨v, w'', r, ?_⟩
   rcases hF with rfl | ⟨l, rfl⟩ <;> exact stepsIn_wide.2 s
  | round l f tmps assign body => exact h.elim
  | _ => exact h
 | halt x w' => cases x <;> exact h
theorem b0Y {R : Type} {cl : a0f} (hW : a8E Fe) (hcl : a0b P cl) {ops : Array Oper} {k : St → Option R} {r : R} {Q : Exit → Act → World → Prop} {rest : List Oper}
  (hQ : ∀ a w, a1d P N n0 B M0 w0 F e0 k r a w → wpListIn Fe n P ops Q rest a w) :
  ∀ {l : List Oper} {env : Env} {st : St} {a : Act} {w : World}, Rel P N n0 B M0 w0 F e0 env st a w → (∀ o ∈ l, ∀ d, o.dst = some d → d < N) → (Fe = Fence.wide ∨ ∀ o ∈ l, ∀ c, o.op ≠ .defer c) → (∀ o ∈ l, ∀ k, a0I P kb o k = true → ¬ F k) → c9A P cl kb ops.toList l st k = some r → wpListIn Fe n P ops Q (l ++ rest) a w
 | [], env, st, a, w, h, _, _, _, hk => by
  refine hQ a w ⟨env, _, h.tmps fun t x hx => ?_, hk⟩
  rw [a1x] at hx
  cases hg : get st.tmps t with
  | none => rw [hg] at hx; cases hx
  | some y =>
   rw [hg] at hx
   simp only [f6b, f5S] at hx
   subst hx
   exact a0w.of (a5K (h.tm t y hg))
 | o :: l, env, st, a, w, h, hd, hdf, hF, hk => by
  have ho := a5k (Q := Q) hcl (hF o (by simp)) h (hd o (by simp)) hk
  have next : ∀ a w, a1d P N n0 B M0 w0 F e0 (fun st' => c9A P cl kb ops.toList l st' k) r a w → wpListIn Fe n P ops Q (l ++ rest) a w := by
   rintro a w ⟨env', st', h1, h2⟩
   exact b0Y hW hcl hQ h1 (fun o' ho' => hd o' (by simp [ho'])) (hdf.imp id fun hdf o' ho' => hdf o' (by simp [ho'])) (fun o' ho' => hF o' (by simp [ho'])) h2
  show wpListIn Fe n P ops Q (o :: (l ++ rest)) a w
  unfold wpListIn
  split
  ·rename_i hw
   rw [if_pos hw] at ho
   exact b8q hW (hdf.imp id fun hdf => hdf o (by simp)) (Oper.wp_mono next ho)
  ·rename_i hw
   rw [if_neg hw] at ho
   exact ⟨fun f _ => hW.fn f, next _ _ ho⟩
end
end Go.AM

namespace Go.AM
open Go

section
variable {P : Program} {N n0 kb : Nat} {F : Nat → Prop} {B M0 : a0Q} {w0 : World} {e0 : b0H} {env : Env} {st : St} {a : Act} {w : World}
theorem Rel.weaken (h : Rel P N n0 B M0 w0 F e0 env st a w) {tmps : AL V} {mem : AL Obj} (ht : ∀ t x, get tmps t = some x → get st.tmps t = some x) (hm : ∀ t x, get mem t = some x → get st.mem t = some x) :
  Rel P N n0 B M0 w0 F e0 env { tmps, mem } a w := by
 have hk : a0O w (Sof P B M0 n0 env st.mem w) w (Sof P B M0 n0 env mem w) := fun b o v hS hv => ⟨⟨hS.1, hS.2.1, fun key ob hg hmu => hS.2.2 key ob (hm key ob hg) hmu⟩, hv⟩
 exact ⟨h.size, h.dfr, h.hn0, fun t x hx => a0w.mono hk (fun _ => rfl) (h.tm t x (ht t x hx)), fun key o hg => a1H hk (fun _ => rfl) (h.ob key o (hm key o hg)),
  fun k k' o o' hg hg' => h.ds k k' o o' (hm _ _ hg) (hm _ _ hg'), fun key o b x hg => h.mu key o b x (hm _ _ hg), fun key e ex xs hg => h.pr key e ex xs (hm _ _ hg), h.ch, h.bb, h.fx, h.gi⟩
theorem c0y (h : Rel P N n0 B M0 w0 F e0 env st a w) (hs : b0U) (id : Nat) : Rel P N n0 B M0 w0 F e0 env (f38 hs id st) a w := by
 unfold f38
 split
 ·exact h
 ·rename_i ts _
  split
  ·exact h.weaken (fun t x hx => b6h _ _ _ _ hx) (fun t x hx => hx)
  ·rename_i ks _ _
   have hsh := Rel.share (a5h st.tmps ts) (mem := st.mem) h
   refine Rel.weaken (st := { tmps := c4w (d4w (a0J st.mem (a5h st.tmps ts)) (a5h st.tmps ts)) st.tmps, mem := a0J st.mem (a5h st.tmps ts) }) ?_ (fun t x hx => b6h _ _ _ _ hx) (fun t x hx => hx)
   refine ⟨hsh.size, hsh.dfr, hsh.hn0, fun t x hx => ?_, hsh.ob, hsh.ds, hsh.mu, hsh.pr, hsh.ch, hsh.bb, hsh.fx, hsh.gi⟩
   simp only [a1x] at hx
   obtain ⟨y, hy, rfl⟩ := Option.map_eq_some_iff.1 hx
   have := hsh.tm t y hy
   unfold d4w
   split
   ·rename_i key
    cases b37 key (a5h st.tmps ts) with
    | false => exact this
    | true => exact a0w.of (a7Q hsh.ob hsh.rows (x := .c (.o key)) this)
   ·exact this
theorem c10 {S : a0Q} {c : C} {v : Value} (h : a0x P env S w c v) : a0x P env S w (f39 c) v := by cases c <;> exact h
theorem e0E {S : a0Q} {x : V} {v : Value} (h : a0w P env S w a x v) : a0w P env S w a (f5t x) v := by
 cases x with
 | c c => exact c10 h
 | g xs => obtain ⟨vs, h1, h2⟩ := h; exact ⟨vs, h1, h2.mapl fun c u _ hcu => c10 hcu⟩
 | t xs => exact h
 | w s b x => exact h
theorem c9V {s : a3R} {o : Obj} {b x : Nat} : a47 P s (e5w o) b x ↔ a47 P s o b x := by
 cases o <;> simp [e5w, a47]
theorem c45 {o : Obj} : a08 (e5w o) ↔ a08 o := by cases o <;> simp [e5w, a08]
theorem a7i {α : Type} {l : AL α} {k : Nat} : ∀ {ks : List Nat}, get (a2M l ks) k = if k ∈ ks then get l k else none
 | [] => by simp [a2M, get]
 | j :: r => by
  have ih := a7i (l := l) (k := k) (ks := r)
  simp only [a2M]
  split
  ·rename_i x hx
   simp only [get, a0v, ih]
   by_cases hj : j = k
   ·subst hj; simp [hx]
   ·rw [cond_false (by simpa using hj)]; simp [Ne.symm hj]
  ·rename_i hx
   rw [ih]
   by_cases hj : k = j
   ·subst hj; simp [hx]
   ·simp [hj]
theorem c9W {α : Type} {l : AL α} {k : Nat} {ks : List Nat} {x : α} (h : get (a2M l ks) k = some x) : get l k = some x := by
 rw [a7i] at h
 split at h
 ·exact h
 ·cases h
theorem a1S (h : Rel P N n0 B M0 w0 F e0 env st a w) (ts ks : List Nat) : Rel P N n0 B M0 w0 F e0 env (a60 ts ks st) a w := by
 have hg : ∀ {k ob}, get (a60 ts ks st).mem k = some ob → ∃ ob0, get st.mem k = some ob0 ∧ ob = e5w ob0 := by
  intro k ob hk
  unfold a60 at hk
  simp only [a1x] at hk
  cases h1 : get (a2M st.mem ks) k with
  | none => rw [h1] at hk; cases hk
  | some ob0 => rw [h1] at hk; simp only [f6b, f5S] at hk; exact ⟨ob0, c9W h1, hk.symm⟩
 have hk : a0O w (Sof P B M0 n0 env st.mem w) w (Sof P B M0 n0 env (a60 ts ks st).mem w) := fun b o v hS hv => ⟨⟨hS.1, hS.2.1, fun key ob hgk hmu => by
  obtain ⟨ob0, h1, rfl⟩ := hg hgk
  exact hS.2.2 key ob0 h1 (c9V.1 hmu)⟩, hv⟩
 refine ⟨h.size, h.dfr, h.hn0, ?_, ?_, ?_, ?_, ?_, h.ch, h.bb, h.fx, h.gi⟩
 ·intro t x hx
  unfold a60 at hx
  simp only [a1x] at hx
  cases h1 : get (a2M st.tmps ts) t with
  | none => rw [h1] at hx; cases hx
  | some y =>
   rw [h1] at hx
   simp only [f6b, f5S] at hx
   subst hx
   exact e0E (a0w.mono hk (fun _ => rfl) (h.tm t y (c9W h1)))
 ·intro key ob hgk
  obtain ⟨ob0, h1, rfl⟩ := hg hgk
  have := a1H (w' := w) hk (fun _ => rfl) (h.ob key ob0 h1)
  cases ob0 with
  | box cs =>
   obtain ⟨cur, T, c1, c2, c3, c4⟩ := this
   refine ⟨cur, T, c1, by simpa using c2, ?_, a5i (fun c hc => by cases c <;> first | exact hc | trivial) c4⟩
   simp only [List.length_map]
   exact c3.mapl fun c u _ hcu => c10 hcu
  | _ => exact this
 ·intro k k' o o' hgk hgk' hr hr' hne
  obtain ⟨ob0, h1, rfl⟩ := hg hgk
  obtain ⟨ob0', h1', rfl⟩ := hg hgk'
  exact h.ds k k' ob0 ob0' h1 h1' (c45.1 hr) (c45.1 hr') hne
 ·intro key o b x hgk hmu
  obtain ⟨ob0, h1, rfl⟩ := hg hgk
  exact h.mu key ob0 b x h1 (c9V.1 hmu)
 ·intro key e ex xs hgk
  obtain ⟨ob0, h1, h2⟩ := hg hgk
  cases ob0 with
  | row e' ex' nl' xs' =>
   simp only [e5w, Obj.row.injEq] at h2
   obtain ⟨rfl, rfl, rfl, rfl⟩ := h2
   exact h.pr key e ex xs h1
  | box cs => cases h2
  | map kt vt es => cases h2
  | tab kt vt es => cases h2
  | dat T d => cases h2
theorem c9X (h : Rel P N n0 B M0 w0 F e0 env st a w) {key key0 : Nat} {e : TypeId} {ex nl : Bool} {xs : List D} (hg : get st.mem key0 = some (.row e ex nl xs)) (hkey : ¬ F key) :
  Rel P N n0 B M0 w0 F e0 (upd env key (env key0)) (a0L key (.row e ex nl xs) { st with mem := del st.mem key0 }) a w := by
 have hsub : ∀ k ob, get (del st.mem key0) k = some ob → get st.mem k = some ob := fun k ob hk => (a0S k ob hk).2
 refine Rel.new h hsub key hkey _ _ (fun _ _ => False) (Chg.refl _ w) (fun _ _ hf => hf.elim) (fun _ _ _ _ _ => rfl) ?_ ?_ ?_ ?_
 ·intro hk
  exact a5j (w' := w) hk (fun _ => rfl) (h.ob _ _ hg) ex
 ·intro b x hm
  exact .inr ⟨key0, _, hg, hm⟩
 ·intro hr k ob _ hk hrk
  obtain ⟨h1, h2⟩ := a0S k ob hk
  exact h.ds k key0 ob _ h2 hg hrk hr h1
 ·intro e' ex' xs' he x hx
  simp only [Obj.row.injEq] at he
  obtain ⟨rfl, rfl, rfl, rfl⟩ := he
  exact h.pr key0 _ _ _ hg x hx
theorem c9Y (h : Rel P N n0 B M0 w0 F e0 env st a w) {key ix : Nat} {cs : List C} {c c' : C} (hg : get st.mem key = some (.box cs)) (hc : cs[ix]? = some c) (hcc : ∀ v, a0x P env (Sof P B M0 n0 env st.mem w) w c v → a0x P env (Sof P B M0 n0 env st.mem w) w c' v) (hnb : ∀ T n, a6v P T n c → a6v P T n c') :
  Rel P N n0 B M0 w0 F e0 env { st with mem := set st.mem key (.box (cs.set ix c')) } a w := by
 have hget : ∀ {k ob}, get (set st.mem key (.box (cs.set ix c'))) k = some ob → ∃ ob0, get st.mem k = some ob0 ∧ (k ≠ key → ob = ob0) ∧ (k = key → ob0 = .box cs ∧ ob = .box (cs.set ix c')) := by
  intro k ob hk
  rw [a2q] at hk
  by_cases he : k = key
  ·rw [if_pos he] at hk
   cases hk
   exact ⟨.box cs, by rw [he]; exact hg, fun hn => absurd he hn, fun _ => ⟨rfl, rfl⟩⟩
  ·rw [if_neg he] at hk
   exact ⟨ob, hk, fun _ => rfl, fun hh => absurd hh he⟩
 have hmut : ∀ {k ob ob0 : _} {b x : Nat}, get (set st.mem key (.box (cs.set ix c'))) k = some ob → get st.mem k = some ob0 → a47 P (env k) ob b x → a47 P (env k) ob0 b x := by
  intro k ob ob0 b x hk h0 hm
  obtain ⟨ob1, h1, h2, h3⟩ := hget hk
  rw [h0] at h1
  cases h1
  by_cases he : k = key
  ·obtain ⟨rfl, rfl⟩ := h3 he
   simpa [a47] using hm
  ·rw [h2 he] at hm; exact hm
 have hk : a0O w (Sof P B M0 n0 env st.mem w) w (Sof P B M0 n0 env (set st.mem key (.box (cs.set ix c'))) w) := fun b o v hS hv => ⟨⟨hS.1, hS.2.1, fun k ob hgk hmu => by
  obtain ⟨ob0, h1, _⟩ := hget hgk
  exact hS.2.2 k ob0 h1 (hmut hgk h1 hmu)⟩, hv⟩
 refine ⟨h.size, h.dfr, h.hn0, fun t x hx => a0w.mono hk (fun _ => rfl) (h.tm t x hx), ?_, ?_, ?_, ?_, h.ch, h.bb, h.fx, h.gi⟩
 ·intro k ob hgk
  obtain ⟨ob0, h1, h2, h3⟩ := hget hgk
  by_cases he : k = key
  ·obtain ⟨rfl, rfl⟩ := h3 he
   obtain ⟨cur, T, c1, c2, c3, c4⟩ := h.ob k _ h1
   refine ⟨cur, T, c1, by simpa using c2, ?_, c1L c4 (hnb T cur.size (c4 c (List.mem_of_getElem? hc)))⟩
   simp only [List.length_set]
   refine a0B.of_get (by simpa using c3.length) fun j x y hx hy => ?_
   by_cases hj : j = ix
   ·subst hj
    have hlt := (f55.1 hc).1
    rw [List.getElem?_set_self hlt] at hx
    cases hx
    exact a0x.mono hk (fun _ _ => rfl) (hcc y (c3.get2 hc hy))
   ·rw [List.getElem?_set_ne (Ne.symm hj)] at hx
    exact a0x.mono hk (fun _ _ => rfl) (c3.get2 hx hy)
  ·rw [h2 he]
   exact a1H hk (fun _ => rfl) (h.ob k ob0 h1)
 ·intro k k' o o' hgk hgk' hr hr' hne
  obtain ⟨ob0, h1, h2, h3⟩ := hget hgk
  obtain ⟨ob0', h1', h2', h3'⟩ := hget hgk'
  refine h.ds k k' ob0 ob0' h1 h1' ?_ ?_ hne
  ·by_cases he : k = key
   ·rw [(h3 he).1]; trivial
   ·rw [← h2 he]; exact hr
  ·by_cases he : k' = key
   ·rw [(h3' he).1]; trivial
   ·rw [← h2' he]; exact hr'
 ·intro k o b x hgk hmu
  obtain ⟨ob0, h1, _⟩ := hget hgk
  exact h.mu k ob0 b x h1 (hmut hgk h1 hmu)
 ·intro k e ex xs hgk
  obtain ⟨ob0, h1, h2, h3⟩ := hget hgk
  by_cases he : k = key
  ·have := (h3 he).2; cases this
  ·exact h.pr k e ex xs (by rw [h1]; exact congrArg some (h2 he).symm)
theorem c11 (h : Rel P N n0 B M0 w0 F e0 env st a w) (hF : ∀ k, F k → k < kb) (t key0 ix : Nat) : ∃ env', Rel P N n0 B M0 w0 F e0 env' (c7j P kb t key0 ix st) a w := by
 have hkey : ¬ F (kb + t) := fun hf => by have := hF _ hf; omega
 unfold c7j
 split
 ·rename_i cs hb
  split
  ·rename_i key hcell
   split
   ·rename_i e ex nl xs hrow
    cases hq : Nat.beq key (kb + t) || Nat.beq key0 key || Nat.beq key0 (kb + t) with
    | true => exact ⟨env, h⟩
    | false =>
     simp only [Bool.or_eq_false_iff, a0v, decide_eq_false_iff_not] at hq
     obtain ⟨⟨n1, n2⟩, n3⟩ := hq
     have hm := c9X h hrow hkey
     have hg : get (a0L (kb + t) (.row e ex nl xs) { st with mem := del st.mem key }).mem key0 = some (.box (cs.map (inval (kb + t)))) := by
      simp only [a0L, a2q, a1x, b1i, if_neg n3, if_neg n2, hb, f6b, a6s]
     simp only [cond_false]
     rw [hg]
     refine ⟨_, c9Y hm hg (c := .o key) ?_ (fun v hv => ?_) fun _ _ _ => trivial⟩
     ·rw [List.getElem?_map, hcell]
      simp only [f6b, inval, a0v, decide_eq_false n1, cond_false]
     ·show v = (upd env (kb + t) (env key) (kb + t)).hdr
      have hv : v = (upd env (kb + t) (env key) key).hdr := hv
      rw [hv]
      simp [upd, n1]
   ·exact ⟨env, h⟩
  ·rename_i e hcell
   cases hq : Nat.beq (a0d P e) (kinds P e).length && !Nat.beq key0 (kb + t) with
   | false => exact ⟨env, h⟩
   | true =>
    simp only [f5U, Bool.not_eq_true', a0v, decide_eq_true_eq, decide_eq_false_iff_not] at hq
    have hm := a5z h (mem0 := st.mem) (fun _ _ hg => hg) (kb + t) hkey (e := e) (ex := true) hq.1
    have hg : get (a0L (kb + t) (.row e true true []) st).mem key0 = some (.box (cs.map (inval (kb + t)))) := by
     simp only [a0L, a2q, a1x, if_neg hq.2, hb, f6b, a6s]
    simp only [cond_true]
    rw [hg]
    refine ⟨_, c9Y hm hg (c := .sl e true []) ?_ (fun v hv => ?_) fun _ _ _ => trivial⟩
    ·rw [List.getElem?_map, hcell]; rfl
    ·show v = (upd env (kb + t) ⟨0, 0, none⟩ (kb + t)).hdr
     have hv : a2e P w _ (.sl e) (.l true []) v := hv
     rw [b2f hv rfl ⟨_, rfl⟩]
     simp [upd, a3R.hdr]
  ·exact ⟨env, h⟩
 ·exact ⟨env, h⟩
theorem c12 (h : Rel P N n0 B M0 w0 F e0 env st a w) (hF : ∀ k, F k → k < kb) (t : Nat) : ∃ env', Rel P N n0 B M0 w0 F e0 env' (c7k P kb t st) a w := by
 have hkey : ¬ F (kb + t) := fun hf => by have := hF _ hf; omega
 have put : ∀ {env' : Env} {st' : St} {c : C}, Rel P N n0 B M0 w0 F e0 env' st' a w → a0x P env' (Sof P B M0 n0 env' st'.mem w) w c (a.tmps.getD t undef) → Rel P N n0 B M0 w0 F e0 env' { st' with tmps := set st'.tmps t (.c c) } a w := by
  intro env' st' c h' hc
  refine h'.tmps fun t' y hy => ?_
  rw [a2q] at hy
  by_cases ht : t' = t
  ·rw [if_pos ht] at hy
   simp only [f5S] at hy
   subst hy ht
   exact hc
  ·rw [if_neg ht] at hy
   exact h'.tm t' y hy
 unfold c7k
 cases Nat.ble 50000000 t with
 | true => exact c11 h hF _ _ _
 | false =>
 simp only [cond_false]
 split
 ·rename_i key hx
  have hv : a.tmps.getD t undef = (env key).hdr := h.tm t _ hx
  split
  ·rename_i e ex nl xs hg
   cases Nat.beq key (kb + t) with
   | true => exact ⟨env, h⟩
   | false => exact ⟨_, put (c9X h hg hkey) (show _ = _ by rw [hv]; simp [upd])⟩
  ·exact ⟨env, h⟩
 ·rename_i e hx
  have hv : a2e P w (Sof P B M0 n0 env st.mem w) (.sl e) (.l true []) (a.tmps.getD t undef) := h.tm t _ hx
  cases hb : Nat.beq (a0d P e) (kinds P e).length with
  | false => exact ⟨env, h⟩
  | true =>
   have hr := a5z h (mem0 := st.mem) (fun _ _ hg => hg) (kb + t) hkey (ex := true) (f5T hb)
   refine ⟨_, put hr (show _ = _ from ?_)⟩
   have hnil : a.tmps.getD t undef = .slice none 0 0 := b2f hv rfl ⟨_, rfl⟩
   rw [hnil]
   simp [upd, a3R.hdr]
 ·exact ⟨env, h⟩
theorem b0Z (hF : ∀ k, F k → k < kb) : ∀ (ts : List Nat) {env : Env} {st : St}, Rel P N n0 B M0 w0 F e0 env st a w → ∃ env', Rel P N n0 B M0 w0 F e0 env' (c1K P kb ts st) a w
 | [], env, st, h => ⟨env, h⟩
 | t :: r, env, st, h => let ⟨_, h1⟩ := c12 h hF t; b0Z hF r h1
theorem a5l (h : Rel P N n0 B M0 w0 F e0 env st a w) (hF : ∀ k, F k → k < kb) (hs : a0M) (id : Nat) : ∃ env', Rel P N n0 B M0 w0 F e0 env' (a61 P kb hs id st) a w := by
 unfold a61
 split
 ·exact ⟨env, h⟩
 ·obtain ⟨env', h1⟩ := b0Z hF _ h
  exact ⟨env', a1S h1 _ _⟩
def c7y {R : Type} (P : Program) (N n0 : Nat) (B M0 : a0Q) (w0 : World) (F : Nat → Prop) (e0 : b0H) (k : Ex → St → Option R) (r : R) : Exit → Act → World → Prop
 | .normal, a, w => a1d P N n0 B M0 w0 F e0 (k .normal) r a w
 | .exit i, a, w => a1d P N n0 B M0 w0 F e0 (k (.exit i)) r a w
 | .ret, a, w => a1d P N n0 B M0 w0 F e0 (k .ret) r a w
 | _, _, _ => False
def d44 : Code → Code → List Code
 | .region id ops d, .block i b => [.seq (.region id ops d) (.block i b)]
 | .region id ops true, .cond c a b => [.seq (.region id ops true) (.cond c a b)]
 | _, _ => []
def a05 : Code → List Code
 | .seq a b => d44 a b ++ (a05 a ++ a05 b)
 | .cond c a b => .cond c a b :: (a05 a ++ a05 b)
 | .block _ b => a05 b
 | .loop b => .loop b :: a05 b
 | .region id ops d => [.region id ops d]
 | .rangeFunc g ps a b => .rangeFunc g ps a b :: (a05 a ++ a05 b)
 | _ => []
def okC (N : Nat) : Code → Bool
 | .region _ ops _ => ops.toList.all fun o => match o.dst with | some d => Nat.blt d N | none => true
 | .seq a b => okC N a && okC N b
 | .cond _ a b => okC N a && okC N b
 | .block _ b => okC N b
 | .loop b => okC N b
 | .rangeFunc _ ps a b => okC N a && okC N b && ps.toList.all fun p => Nat.blt p N
 | _ => true
theorem c13 {N : Nat} {ops : List Oper} (h : (ops.all fun o => match o.dst with | some d => Nat.blt d N | none => true) = true) : ∀ o ∈ ops, ∀ d, o.dst = some d → d < N := by
 intro o ho d hd
 rw [List.all_eq_true] at h
 have := h o ho
 rw [hd] at this
 exact f54 this
theorem a82 {Fe : Fence} {nn : Nat} {Q : Exit → Act → World → Prop} {c : Code} (I : Nat → Act → World → Prop) (n₀ : Nat) (h₀ : I n₀ a w)
  (round : ∀ m a w, I m a w → c.wpIn Fe nn P (Exit.then (fun a' w' => ∃ m', m' < m ∧ I m' a' w') Q) a w) : (Code.loop c).wpIn Fe nn P Q a w := by
 refine wpIn_loop (fun a w => ∃ m, I m a w) (fun a w => leastOf (fun m => I m a w)) ⟨n₀, h₀⟩ ?_
 intro a w hI
 refine wpIn_mono (round _ a w (leastOf_spec hI).1) ?_
 intro e a' w' hq
 cases e with
 | normal =>
  obtain ⟨n', hlt, hI'⟩ := hq
  exact show (∃ m, I m a' w') ∧ leastOf (fun m => I m a' w') < leastOf (fun m => I m a w) from ⟨⟨n', hI'⟩, Nat.lt_of_le_of_lt ((leastOf_spec ⟨n', hI'⟩).2 n' hI') hlt⟩
 | exit id => exact hq
 | goto l => exact hq
 | ret => exact hq
 | panic ch => exact hq
 | outgrown => exact hq
abbrev a1K := Fence → Prop
def b2h : a1K := fun Fe => Fe = Fence.wide
def a03 : Code → Bool
 | .region _ ops _ => ops.toList.all fun o => match o.op with | .defer _ => false | _ => true
 | .seq a b => a03 a && a03 b
 | .cond _ a b => a03 a && a03 b
 | .block _ b => a03 b
 | .loop b => a03 b
 | .rangeFunc _ _ a b => a03 a && a03 b
 | _ => true
theorem c46 {id : Nat} {ops : Array Oper} {d : Bool} (h : a03 (.region id ops d) = true) : ∀ o ∈ ops.toList, ∀ c, o.op ≠ .defer c := by
 intro o ho c hc
 have := List.all_eq_true.1 h o ho
 rw [hc] at this
 cases this
def b1z (Fs : a1K) (c : Code) : Prop := (∀ Fe, Fs Fe → a8E Fe) ∧ ((∀ Fe, Fs Fe → Fe = Fence.wide) ∨ a03 c = true)
theorem fsW (c : Code) : b1z b2h c := ⟨fun _ h => .inl h, .inl fun _ h => h⟩
theorem fsA {c : Code} (h : a03 c = true) : b1z a8E c := ⟨fun _ h => h, .inr h⟩
def a1W (P : Program) (cl : a0f) : Prop := ∀ {R : Type} {N n0 kb : Nat} {F : Nat → Prop} {B M0 : a0Q} {w0 : World} {e0 : b0H} {env : Env} {st : St} {a : Act} {w : World} {id : Nat} {ops : Array Oper} {k : St → Option R} {r : R} {Q : Exit → Act → World → Prop} {Fe : Fence} {nn : Nat}, a8E Fe → (Fe = Fence.wide ∨ ∀ o ∈ ops.toList, ∀ c, o.op ≠ .defer c) → (∀ k, F k → k < kb) →
 Rel P N n0 B M0 w0 F e0 env st a w → (∀ o ∈ ops.toList, ∀ d, o.dst = some d → d < N) → c7i P cl kb ops.toList st k = some r → (∀ a w, a1d P N n0 B M0 w0 F e0 k r a w → Q .normal a w) → (Code.region id ops true).wpIn Fe nn P Q a w
abbrev Ctx := Nat → Nat → (Nat → Prop) → a0Q → a0Q → World → b0H → Prop
def e0i : Ctx := fun _ _ _ _ _ _ _ => True
def a7j (P : Program) (kb : Nat) (b : Code) (f : St → Option (List (Bool × (Ex × St)))) (X : Ctx := e0i) (Fs : a1K := b2h) : Prop := ∀ st alts, f st = some alts → ∀ x, a5f alts some = some x →
 ∀ {N n0 : Nat} {F : Nat → Prop} {B M0 : a0Q} {w0 : World} {e0 : b0H} {env : Env} {a : Act} {w : World}, X N n0 F B M0 w0 e0 → (∀ k, F k → k < kb) → okC N b = true → Rel P N n0 B M0 w0 F e0 env st a w →
  ∀ Fe nn, Fs Fe → b.wpIn Fe nn P (c7y P N n0 B M0 w0 F e0 (fun e st => some (e, st)) x) a w
def c47 (P : Program) (hs : b0U) (kb : Nat) (b : Code) (X : Ctx := e0i) (Fs : a1K := b2h) : Prop := ∀ id f, b7Q hs b = some (id, f) → a7j P kb b f X Fs
theorem e0F {R : Type} {k : Ex → St → Option R} {r : R} {x : Ex × St} (hk : k x.1 x.2 = some r) {e : Exit} (h : c7y P N n0 B M0 w0 F e0 (fun e st => some (e, st)) x e a w) : c7y P N n0 B M0 w0 F e0 k r e a w := by
 cases e with
 | normal => obtain ⟨env', st', h1, h2⟩ := h; cases h2; exact ⟨env', st', h1, hk⟩
 | exit i => obtain ⟨env', st', h1, h2⟩ := h; cases h2; exact ⟨env', st', h1, hk⟩
 | ret => obtain ⟨env', st', h1, h2⟩ := h; cases h2; exact ⟨env', st', h1, hk⟩
 | _ => exact h.elim
theorem b1z.sub {Fs : a1K} {c d : Code} (h : b1z Fs c) (hd : a03 c = true → a03 d = true) : b1z Fs d := ⟨h.1, h.2.imp id hd⟩
theorem b1z.seq1 {Fs : a1K} {x y : Code} (h : b1z Fs (.seq x y)) : b1z Fs x := h.sub fun q => by simp only [a03, f5U] at q; exact q.1
theorem b1z.seq2 {Fs : a1K} {x y : Code} (h : b1z Fs (.seq x y)) : b1z Fs y := h.sub fun q => by simp only [a03, f5U] at q; exact q.2
theorem b1z.cond1 {Fs : a1K} {c : Operand} {x y : Code} (h : b1z Fs (.cond c x y)) : b1z Fs x := h.sub fun q => by simp only [a03, f5U] at q; exact q.1
theorem b1z.cond2 {Fs : a1K} {c : Operand} {x y : Code} (h : b1z Fs (.cond c x y)) : b1z Fs y := h.sub fun q => by simp only [a03, f5U] at q; exact q.2
theorem b1z.block {Fs : a1K} {i : Nat} {x : Code} (h : b1z Fs (.block i x)) : b1z Fs x := h.sub fun q => by simpa only [a03] using q
theorem b1z.loop {Fs : a1K} {x : Code} (h : b1z Fs (.loop x)) : b1z Fs x := h.sub fun q => by simpa only [a03] using q
theorem b1z.ops {Fs : a1K} {id : Nat} {ops : Array Oper} {d : Bool} (h : b1z Fs (.region id ops d)) (Fe : Fence) (hFe : Fs Fe) : Fe = Fence.wide ∨ ∀ o ∈ ops.toList, ∀ c, o.op ≠ .defer c := h.2.imp (fun q => q Fe hFe) c46
theorem a9S {R : Type} {cl : a0f} {hs : b0U} {X : Ctx} {Fs : a1K} (hX : X N n0 F B M0 w0 e0) (hcl : a0b P cl) (hdr : a1W P cl) (hF : ∀ k, F k → k < kb) : ∀ (n : Nat) {c : Code} {k : Ex → St → Option R} {r : R} {env : Env} {st : St} {a : Act} {w : World}, okC N c = true → b1z Fs c → (∀ b ∈ a05 c, c47 P hs kb b X Fs) →
  Rel P N n0 B M0 w0 F e0 env st a w → a68 P cl hs kb n c st k = some r → ∀ Fe nn, Fs Fe → c.wpIn Fe nn P (c7y P N n0 B M0 w0 F e0 k r) a w := by
 intro n
 induction n using Nat.strongRecOn with
 | _ n ih =>
 intro c k r env st a w hok hfs hlo h hk Fe nn hFe
 cases n with
 | zero => cases hk
 | succ n =>
 have ihn := @ih n (Nat.lt_succ_self n)
 cases hl : a7L P kb hs c st with
 | some alts =>
  unfold a7L at hl
  split at hl
  ·cases hl
  ·rename_i id f hlo1
   have hmem : c ∈ a05 c := by
    unfold b7Q at hlo1
    cases c with
    | seq x y =>
     cases x <;> first | (simp [d2j] at hlo1; done) | skip
     rename_i rid rops rd
     cases y <;> first | (simp [d2j] at hlo1; done) | (cases rd <;> first | (simp [d2j] at hlo1; done) | simp [a05, d44])
    | _ => first | (simp [d2j] at hlo1; done) | simp [a05]
   have hla : a7L P kb hs c st = some alts := by unfold a7L; rw [hlo1]; exact hl
   simp only [a68, hla] at hk
   rw [a7h] at hk
   cases hx : a5f alts some with
   | none => rw [hx] at hk; cases hk
   | some y =>
    rw [hx] at hk
    obtain ⟨env1, hcl1⟩ := a5l h hF hs.loops id
    exact wpIn_mono (hlo c hmem id f hlo1 _ alts hl y hx hX hF hok hcl1 Fe nn hFe) fun e a w hp => e0F hk hp
 | none =>
 cases c with
 | skip => simp only [a68, hl] at hk; exact wpIn_skip ⟨env, st, h, hk⟩
 | label l => simp only [a68, hl] at hk; exact wpIn_label ⟨env, st, h, hk⟩
 | ret => simp only [a68, hl] at hk; exact wpIn_ret ⟨env, st, h, hk⟩
 | exit id => simp only [a68, hl] at hk; exact wpIn_exit ⟨env, st, h, hk⟩
 | seq x y =>
  simp only [okC, f5U] at hok
  simp only [a68, hl] at hk
  simp only [a05, List.mem_append] at hlo
  refine wpIn_seq (wpIn_mono (ihn hok.1 hfs.seq1 (fun b hb => hlo b (.inr (.inl hb))) h hk Fe nn hFe) ?_)
  intro e a' w' hp
  cases e with
  | normal =>
   obtain ⟨env', st', h1, h2⟩ := hp
   exact ihn hok.2 hfs.seq2 (fun b hb => hlo b (.inr (.inr hb))) h1 h2 Fe nn hFe
  | exit i => exact hp
  | ret => exact hp
  | _ => exact hp.elim
 | block id x =>
  simp only [okC] at hok
  simp only [a68, hl] at hk
  refine wpIn_block (wpIn_mono (ihn hok hfs.block (by simpa [a05] using hlo) h hk Fe nn hFe) ?_)
  intro e a' w' hp
  cases e with
  | normal => exact hp
  | exit i =>
   obtain ⟨env', st', h1, h2⟩ := hp
   simp only [Exit.inBlock]
   simp only [a0v] at h2
   by_cases hi : i = id
   ·rw [cond_true (by simpa using hi)] at h2
    rw [if_pos hi]
    exact ⟨env', st', h1, h2⟩
   ·rw [cond_false (by simpa using hi)] at h2
    rw [if_neg hi]
    exact ⟨env', st', h1, h2⟩
  | ret => exact hp
  | _ => exact hp.elim
 | cond c x y =>
  simp only [okC, f5U] at hok
  simp only [a68, hl] at hk
  simp only [a05, f59, List.mem_append] at hlo
  have hc := h.ev c
  split at hk
  ·rename_i b he
   rw [he] at hc
   have hb : a.eval c = .bool b := hc
   cases b with
   | true => exact wpIn_cond_true hb (ihn hok.1 hfs.cond1 (fun b hb => hlo b (.inr (.inl hb))) h hk Fe nn hFe)
   | false => exact wpIn_cond_false hb (ihn hok.2 hfs.cond2 (fun b hb => hlo b (.inr (.inr hb))) h hk Fe nn hFe)
  ·rename_i b he
   rw [he] at hc
   have hb : a.eval c = .bool b := hc
   split at hk
   ·rename_i t
    have put : ∀ z : Bool, b = z → Rel P N n0 B M0 w0 F e0 env { st with tmps := set st.tmps t (.c (.k z)) } a w := by
     intro z hz
     subst hz
     refine h.tmps fun t' y hy => ?_
     rw [a2q] at hy
     by_cases ht : t' = t
     ·rw [if_pos ht] at hy
      simp only [f5S] at hy
      subst hy ht
      exact hb
     ·rw [if_neg ht] at hy
      exact h.tm t' y hy
    cases b with
    | true => exact wpIn_cond_true hb (ihn hok.1 hfs.cond1 (fun b hb => hlo b (.inr (.inl hb))) (put true rfl) hk Fe nn hFe)
    | false => exact wpIn_cond_false hb (ihn hok.2 hfs.cond2 (fun b hb => hlo b (.inr (.inr hb))) (put false rfl) hk Fe nn hFe)
   ·cases hk
  ·cases hk
 | loop x =>
  simp only [okC] at hok
  cases hlw : b7Q hs (.loop x) with
  | some q =>
   simp only [a68, hl, hlw] at hk
   obtain ⟨env2, hcl2⟩ := a5l h hF hs.loops (3 * a3m x)
   refine a82 (fun m a' w' => a' = a ∧ w' = w) 0 ⟨rfl, rfl⟩ ?_
   rintro m a' w' ⟨rfl, rfl⟩
   refine wpIn_mono (ihn hok hfs.loop (fun b hb => hlo b (by simp [a05, hb])) hcl2 hk Fe nn hFe) ?_
   intro e a'' w'' hp
   cases e with
   | normal => obtain ⟨_, _, _, h4⟩ := hp; cases h4
   | exit i => exact hp
   | ret => exact hp
   | _ => exact hp.elim
  | none =>
  refine a82 (fun m a w => m ≤ n + 1 ∧ ∃ env st, Rel P N n0 B M0 w0 F e0 env st a w ∧ a68 P cl hs kb m (.loop x) st k = some r) (n + 1) ⟨Nat.le_refl _, env, st, h, hk⟩ ?_
  rintro m a' w' ⟨hm, env', st', h1, h2⟩
  cases m with
  | zero => cases h2
  | succ m =>
   have hl' : a7L P kb hs (.loop x) st' = none := by unfold a7L; rw [hlw]
   simp only [a68, hl', hlw] at h2
   obtain ⟨env2, hcl2⟩ := a5l h1 hF hs.loops (3 * a3m x)
   refine wpIn_mono (@ih m (by omega) _ _ _ _ _ _ _ hok hfs.loop (fun b hb => hlo b (by simp [a05, hb])) hcl2 h2 Fe nn hFe) ?_
   intro e a'' w'' hp
   cases e with
   | normal =>
    obtain ⟨env'', st'', h3, h4⟩ := hp
    obtain ⟨env3, hcl3⟩ := a5l h3 hF hs.loops (3 * a3m x)
    exact ⟨m, Nat.lt_succ_self m, by omega, env3, _, hcl3, h4⟩
   | exit i => exact hp
   | ret => exact hp
   | _ => exact hp.elim
 | region id ops d =>
  simp only [okC] at hok
  cases d with
  | false =>
   simp only [a68, hl] at hk
   refine wpIn_region_list ?_
   have := b0Y (n := nn) (k := k .normal) (r := r) (rest := []) (l := ops.toList) (Q := c7y P N n0 B M0 w0 F e0 k r) (hfs.1 Fe hFe) hcl (fun a w hp => hp) (c0y h hs id) (c13 hok) (hfs.ops Fe hFe) (fun o _ => b2g hF) hk
   rwa [List.append_nil] at this
  | true =>
   simp only [a68, hl] at hk
   exact hdr (hfs.1 Fe hFe) (hfs.ops Fe hFe) hF (c0y h hs id) (c13 hok) hk fun a w hp => hp
 | _ => simp only [a68, hl] at hk; cases hk
end
end Go.AM

namespace Go.AM
open Go

theorem e0G {n m : Nat} (hnm : n ≤ m) : ∀ {c : Code}, okC n c = true → okC m c = true := by
 intro c
 induction c with
 | region id ops d =>
  intro h
  simp only [okC, List.all_eq_true] at h ⊢
  intro o ho
  have := h o ho
  cases hd : o.dst with
  | some d => rw [hd] at this; exact Nat.ble_eq_true_of_le (Nat.le_trans (f54 this) hnm)
  | none => rfl
 | seq a b iha ihb => intro h; simp only [okC, f5U] at h ⊢; exact ⟨iha h.1, ihb h.2⟩
 | cond c a b iha ihb => intro h; simp only [okC, f5U] at h ⊢; exact ⟨iha h.1, ihb h.2⟩
 | block id b ih => intro h; simp only [okC] at h ⊢; exact ih h
 | loop b ih => intro h; simp only [okC] at h ⊢; exact ih h
 | rangeFunc g ps a b iha ihb =>
  intro h
  simp only [okC, f5U, List.all_eq_true] at h ⊢
  exact ⟨⟨iha h.1.1, ihb h.1.2⟩, fun p hp => Nat.ble_eq_true_of_le (Nat.le_trans (f54 (h.2 p hp)) hnm)⟩
 | _ => intro _; rfl
section
variable {P : Program} {N n0 kb : Nat} {F : Nat → Prop} {B M0 : a0Q} {w0 : World} {e0 : b0H} {env : Env} {st : St} {a : Act} {w : World}
theorem d2D {xs : List V} : ∀ {i t : Nat}, get (params i xs) t = if i ≤ t then xs[t - i]? else none := by
 induction xs with
 | nil => intro i t; simp [params, get]
 | cons x xs ih =>
  intro i t
  simp only [params, get, a0v, ih]
  by_cases h : i = t
  ·subst h; simp
  ·rw [cond_false (by simpa using h)]
   by_cases h1 : i ≤ t
   ·rw [if_pos h1, if_pos (by omega), show t - i = (t - (i + 1)) + 1 by omega, List.getElem?_cons_succ]
   ·rw [if_neg h1, if_neg (by omega)]
def f4b (a : Act) : ResultVar → Sem Value
 | .tmp t => pure (a.tmps.getD t undef)
 | .cell x t => do loadVar t (← asAddr (a.tmps.getD x undef))
theorem c48 : ∀ {ks : List Nat} {mem : AL Obj} {key : Nat} {ob : Obj}, get (a0J mem ks) key = some ob → ∃ ob0, get mem key = some ob0 ∧ ∀ (s : a3R) b x, a47 P s ob b x → a47 P s ob0 b x
 | [], mem, key, ob, h => ⟨ob, h, fun _ _ _ q => q⟩
 | k :: ks, mem, key, ob, h => by
  simp only [a0J] at h
  obtain ⟨ob1, h1, h2⟩ := c48 h
  cases hg : get mem k with
  | none => rw [hg] at h1; exact ⟨ob1, h1, h2⟩
  | some o =>
   rw [hg] at h1
   simp only [a2q] at h1
   by_cases hk : key = k
   ·rw [if_pos hk] at h1
    simp only [f5S] at h1
    subst h1 hk
    refine ⟨o, hg, fun s b x hm => ?_⟩
    have := h2 s b x hm
    cases o with
    | row e ex nl xs =>
     simp only [c0b, a47] at this ⊢
     refine ⟨this.1, this.2.1, ?_⟩
     rcases this.2.2 with q | q
     ·cases q
     ·exact .inr q
    | _ => exact this
   ·rw [if_neg hk] at h1
    exact ⟨ob1, h1, h2⟩
theorem c7z {env : Env} (mem : AL Obj) (ks : List Nat) : a0O w (Sof P B M0 n0 env mem w) w (Sof P B M0 n0 env (a0J mem ks) w) := fun b o v hS hv =>
 ⟨⟨hS.1, hS.2.1, fun key ob hg hm => let ⟨ob0, g0, m0⟩ := c48 (P := P) hg; hS.2.2 key ob0 g0 (m0 _ _ _ hm)⟩, hv⟩
theorem a40 (h : Rel P N n0 B M0 w0 F e0 env st a w) : ∀ {l : List ResultVar} {rs : List V}, a4j P st l = some rs →
  ∃ vs, (l.mapM (f4b a)).run P w = .ok vs w ∧ a0B (a0G P env (Sof P B M0 n0 env st.mem w) w) rs vs
 | [], rs, hr => by
  simp only [a4j, f5S] at hr
  subst hr
  exact ⟨[], by simp, trivial⟩
 | .tmp t :: l, rs, hr => by
  simp only [a4j] at hr
  split at hr
  ·rename_i xs hxs
   simp only [f5S] at hr
   subst hr
   obtain ⟨vs, h1, h2⟩ := a40 h hxs
   refine ⟨a.tmps.getD t undef :: vs, ?_, h.evu (.tmp t), h2⟩
   simp only [List.mapM_cons, f4b, f5Y, f5Z, f5V, h1]
  ·cases hr
 | .cell x T :: l, rs, hr => by
  simp only [a4j] at hr
  split at hr
  ·rename_i y xs hy hxs
   simp only [f5S] at hr
   subst hr
   obtain ⟨vs, h1, h2⟩ := a40 h hxs
   obtain ⟨ad, v, q1, q2, q3⟩ := b7Z h.ob (h.evu (.tmp x)) hy
   have q1' : a.tmps.getD x undef = .pointer (some ad) := q1
   refine ⟨v :: vs, ?_, q3, h2⟩
   simp only [List.mapM_cons, f4b, f5Y, q1', asAddr, f5Z, f5V, q2, h1]
  ·cases hr
theorem e0H {S : a0Q} {x : V} {v : Value} (hp : b40 x = true) (h : a0G P env S w x v) : a7c P env S w x v := by
 cases x with
 | c c => exact h
 | g xs => exact h
 | t => cases hp
 | w => cases hp
theorem c7A {S : a0Q} {rs : List V} {vs : List Value} (hp : rs.all b40 = true) (h : a0B (a0G P env S w) rs vs) : a0G P env S w (a3T rs) (if h : vs.length = 1 then vs[0] else .tuple vs.toArray) := by
 rw [List.all_eq_true] at hp
 have hl := h.length
 match rs, vs, h, hl, hp with
 | [], [], _, _, _ => exact ⟨#[], rfl, trivial⟩
 | [x], [v], h, _, _ => simpa [a3T] using h.1
 | x :: y :: r, v :: u :: s, h, _, hp =>
  rw [dif_neg (by simp)]
  exact ⟨_, rfl, h.mono fun x v hx hxv => e0H (hp x hx) hxv⟩
theorem b5g {S : a0Q} : ∀ {ts : List TypeId} {xs : List V} {vs : List Value}, a0B (a0G P env S w) xs vs → a0B (a0G P env S w) (b7R P ts xs) vs
 | [], xs, vs, h => by simpa [b7R] using h
 | T :: ts, [], [], h => by simpa [b7R] using h
 | T :: ts, x :: xs, v :: vs, h => ⟨c1T h.1, b5g h.2⟩
 | T :: ts, [], _ :: _, h => h.elim
 | T :: ts, _ :: _, [], h => h.elim
theorem c49 {fn : Func} {own : Bool} {r : Res} (h : Rel P N n0 B M0 w0 F e0 env st a w) (hf : c0g P fn own kb st = some r) :
  ∃ v, (results fn a.tmps).run P w = .ok v w ∧ e9t P n0 B M0 w0 F e0.f env r.2 w ∧ a0G P env (Sof P B M0 n0 env r.2 w) w (a3T r.1) v := by
 unfold c0g at hf
 split at hf
 ·cases hf
 ·rename_i rs hrs
  simp only at hf
  obtain ⟨vs, h1, h2⟩ := a40 h hrs
  have hpre : ∃ mem rs', (bif own then st.mem else a0J st.mem (rs.flatMap a4Z)) = mem ∧ (bif own then rs else rs.map (c1F mem)) = rs' ∧ Rel P N n0 B M0 w0 F e0 env { st with mem } a w ∧ a0B (a0G P env (Sof P B M0 n0 env mem w) w) rs' vs := by
   cases own with
   | true => exact ⟨_, _, rfl, rfl, h, h2⟩
   | false =>
    have hsh := Rel.share (rs.flatMap a4Z) (mem := st.mem) h
    exact ⟨_, _, rfl, rfl, hsh, h2.mapl fun x v _ hxv => a7Q hsh.ob hsh.rows (a0G.mono (c7z _ _) (fun _ => rfl) hxv)⟩
  obtain ⟨mem, rs', hmem, hrs', hsh, h2'⟩ := hpre
  rw [hmem, hrs'] at hf
  split at hf
  ·cases hf
  ·rename_i acc hacc
   cases hp : (b7R P fn.resultTypes.toList rs').all b40 with
   | false => rw [hp] at hf; cases hf
   | true =>
    rw [hp] at hf
    simp only [cond_true, f5S] at hf
    subst hf
    have h3 : a0B (a0G P env (Sof P B M0 n0 env mem w) w) (b7R P fn.resultTypes.toList rs') vs := b5g h2'
    have hwk := hsh.weaken (tmps := st.tmps) (mem := c7b (fun x => acc.any fun r => Nat.beq r.key x) mem) (fun _ _ q => q) (fun _ _ q => b6h _ _ _ _ q)
    have hk2 : a0O w (Sof P B M0 n0 env mem w) w (Sof P B M0 n0 env (c7b (fun x => acc.any fun r => Nat.beq r.key x) mem) w) := fun b o v hS hv => ⟨⟨hS.1, hS.2.1, fun key ob hg hmu => hS.2.2 key ob (b6h _ _ _ _ hg) hmu⟩, hv⟩
    refine ⟨if h : vs.length = 1 then vs[0] else .tuple vs.toArray, ?_, hwk.toM, c7A hp (h3.mono fun x v _ hxv => a0G.mono hk2 (fun _ => rfl) hxv)⟩
    have hfun : results fn a.tmps = (do let vs ← fn.results.mapM (f4b a); pure (if h : vs.size = 1 then vs[0] else .tuple vs)) := by
     unfold results
     congr 1
    rw [hfun, Array.mapM_eq_mapM_toList]
    simp only [map_eq_pure_bind, f5Y, h1, f5V, f5Z]
    simp
def Off (env : Env) (mem : AL Obj) (b : Nat) : Prop := ∀ key o, get mem key = some o → a08 o → (env key).blk ≠ b
theorem Off.new (h : Rel P N n0 B M0 w0 F e0 env st a w) {b : Nat} (hb : w.heap.size ≤ b) : Off env st.mem b := fun key o hg hr => by have := h.lt hg hr; omega
theorem Rel.alienM (h : Rel P N n0 B M0 w0 F e0 env st a w) {w' : World} {row : Option Nat} (hg : w.grownBy w' row) (hmk : a2K n0 w' e0.D a.defers)
  (hrow : ∀ r, row = some r → (n0 ≤ r ∨ ∀ o, M0 r o) ∧ (∀ c T f, w.heap[r]? ≠ some (.cells c T f)) ∧ Off env st.mem r) : Rel P N n0 B M0 w0 F e0 env st a w' := by
 have hcell : ∀ (b : Nat) (cur : Array Value) (T : TypeId) (fr : Nat × Nat), w.heap[b]? = some (Go.Obj.cells cur T fr) → w'.heap[b]? = some (Go.Obj.cells cur T fr) := by
  intro b cur T fr hb
  rw [hg.block b (f53.1 hb).1 (fun e => (hrow b e.symm).2.1 _ _ _ hb)]
  exact hb
 have hk : a0O w (Sof P B M0 n0 env st.mem w) w' (Sof P B M0 n0 env st.mem w') := by
  intro b o v hS hv
  refine ⟨⟨hS.1, Nat.lt_of_lt_of_le hS.2.1 hg.size, hS.2.2⟩, ?_⟩
  obtain ⟨cur, T, fr, h1, h2⟩ := a7e hv
  exact a2r (hcell b cur T fr h1) h2
 refine ⟨h.size, hmk, h.hn0, fun t x hx => a0w.mono hk (fun _ => rfl) (h.tm t x hx), fun key o hgk => a1H hk (fun hr => ?_) (h.ob key o hgk), h.ds, h.mu, h.pr, ?_, h.bb, h.fx, h.gi⟩
 ·exact hg.block _ (h.lt hgk hr) (fun e => (hrow _ e.symm).2.2 key o hgk hr rfl)
 ·refine Chg.trans h.ch (M' := fun b _ => row = some b) ⟨hg.os, hg.tape, hg.output, hg.size, fun b cur T fr hb => ⟨cur, fr, hcell b cur T fr hb, rfl, fun _ _ => rfl, .inl rfl⟩, fun b ob hb hno => ?_⟩ (fun b o hm => by
    rcases (hrow b hm).1 with q | q
    ·exact .inr (by rw [← h.hn0]; exact q)
    ·exact .inl (q o))
  rw [hg.block b (f53.1 hb).1 (fun e => hno 0 e.symm)]
  exact hb
theorem Rel.alien (h : Rel P N n0 B M0 w0 F e0 env st a w) {w' : World} {row : Option Nat} (hg : w.grownBy w' row)
  (hrow : ∀ r, row = some r → n0 ≤ r ∧ (∀ c T f, w.heap[r]? ≠ some (.cells c T f)) ∧ Off env st.mem r) (hnd : ∀ r, row = some r → ∀ d, w.heap[r]? ≠ some (.deferred d)) : Rel P N n0 B M0 w0 F e0 env st a w' :=
 h.alienM hg (h.dfr.grown hg hnd) fun r e => ⟨.inl (hrow r e).1, (hrow r e).2⟩
theorem Rel.act (h : Rel P N n0 B M0 w0 F e0 env st a w) {tmps : AL V} {a2 : Act} {D' : List Deferred} (hd : a2K n0 w D' a2.defers) (ht : ∀ t x, get tmps t = some x → a0w P env (Sof P B M0 n0 env st.mem w) w a2 x (a2.tmps.getD t undef)) :
  Rel P a2.tmps.size n0 B M0 w0 F ⟨e0.f, D'⟩ env ⟨tmps, st.mem⟩ a2 w := ⟨rfl, hd, h.hn0, ht, h.ob, h.ds, h.mu, h.pr, h.ch, h.bb, h.fx, h.gi⟩
theorem Off.other (h : Rel P N n0 B M0 w0 F e0 env st a w) {b : Nat} {ob : Go.Obj} (hb : w.heap[b]? = some ob) (h1 : ∀ c T f, ob ≠ .cells c T f) (h2 : ∀ e c, ob ≠ .map e c) : Off env st.mem b := by
 intro key o hg hr he
 have ho := h.ob key o hg
 cases o with
 | box cs => obtain ⟨cur, T, q, _⟩ := ho; rw [he, hb] at q; exact h1 _ _ _ (Option.some.inj q)
 | row e ex nl xs =>
  obtain ⟨_, ⟨q, _⟩ | ⟨_, _, cap, cur, _, ⟨fr, _, q⟩, _⟩⟩ := ho
  ·rw [show nl = false from hr] at q; cases q
  ·rw [he, hb] at q; exact h1 _ _ _ (Option.some.inj q)
 | map kt vt es => obtain ⟨ents, clock, q, _⟩ := ho; rw [he, hb] at q; exact h2 _ _ (Option.some.inj q)
 | tab kt vt es => obtain ⟨ents, clock, q, _⟩ := ho; rw [he, hb] at q; exact h2 _ _ (Option.some.inj q)
 | dat T d => obtain ⟨_, cur, E, q, _⟩ := ho; rw [he, hb] at q; exact h1 _ _ _ (Option.some.inj q)
theorem b5h {fn : Func} {own : Bool} {r : Res} {R : Ending → World → Prop} {tmps : Array Value} (hf : c0g P fn own kb st = some r)
  (hR : ∀ v w, e9t P n0 B M0 w0 F e0.f env r.2 w → a0G P env (Sof P B M0 n0 env r.2 w) w (a3T r.1) v → R (.returned v) w) : ∀ (ns : List Nat) {w : World},
  Rel P N n0 B M0 w0 F ⟨e0.f, []⟩ env st { tmps := tmps, defers := [] } w → (∀ b ∈ ns, n0 ≤ b ∧ w.heap[b]? = some (.deferred (some []))) → ns.Nodup → LeavesInM Fence.wide 0 P fn tmps R (ns.map mkD) .returning w
 | [], w, h, _, _ => by
  obtain ⟨v, q1, q2, q3⟩ := c49 h hf
  exact ⟨v, q1, hR v w q2 q3⟩
 | b :: ns, w, h, hb, hn => by
  obtain ⟨h1, h2⟩ := hb b (by simp)
  have hlt : b < w.heap.size := (f53.1 h2).1
  refine ⟨(fun h => by cases h), .inl ⟨b, _, rfl, run_takeDeferred h2, b5h hf hR ns ?_ (fun c hc => ?_) (List.nodup_cons.1 hn).2⟩⟩
  ·exact h.alienM (row := some b) ⟨rfl, rfl, rfl, by simp, fun k hk hne => World.putObj_heap_other (fun e => hne (by rw [e]))⟩ .nil fun r e => by
    cases e
    exact ⟨.inl h1, (fun c T f e => by rw [h2] at e; cases e), Off.other h h2 (fun _ _ _ e => by cases e) (fun _ _ e => by cases e)⟩
  ·refine ⟨(hb c (by simp [hc])).1, ?_⟩
   rw [World.putObj_heap_other (show c ≠ b from fun e => by subst e; exact (List.nodup_cons.1 hn).1 hc)]
   exact (hb c (by simp [hc])).2
structure a6B (P : Program) : Prop where
 mixed : P.follows .mixedOrders = true
 ok : ∀ (f : Nat) (fn : Func) (c : Code), P.funcs[f]? = some fn → fn.body = some c → okC fn.ntmps c = true
 num : ∀ (f : Nat) (fn : Func), P.funcs[f]? = some fn → fn.body.isNone = false → (fn.name == "runtime.NumGoroutine") = false
def c7B (P : Program) (hs : b0U) (kb : Nat) (f : FuncId) (X : Ctx := e0i) : Prop := ∀ fn c, P.funcs[f]? = some fn → fn.body = some c → ∀ b ∈ a05 c, c47 P hs kb b X
def c7C (X : Ctx) (P : Program) (f : FuncId) (args : List V) (mem : AL Obj) (res : Res) : Prop :=
 ∀ (B : a0Q) (env : Env) (w : World) (vs : Array Value), (∀ N, X N w.heap.size (· < mem.length) B (a5M P env mem) w env) → b4o P B env mem w → a0B (a0G P env (Sof P B (a5M P env mem) w.heap.size env mem w) w) args vs.toList →
  Calls P f vs w fun e w' => ∃ v, e = .returned v ∧ a9Q P B env mem w res v w'
theorem b1A {X : Ctx} {cl : a0f} {hs : b0U} {n : Nat} {f : FuncId} {args : List V} {mem : AL Obj} {r : Res} (hP : a6B P) (hcl : a0b P cl) (hdr : a1W P cl) (hlo : c7B P hs mem.length f X)
  (h : body P cl hs n f args mem = some r) : c7C X P f args mem r ∧ a8Y P f := by
 unfold body at h
 split at h
 ·cases h
 ·rename_i fn hfn
  split at h
  ·cases h
  ·rename_i c hc
   have hbn : fn.body.isNone = false := by rw [hc]; rfl
   refine ⟨fun B env w vs hX hpre hargs => ?_, fn, hfn, hbn, hP.num f fn hfn hbn⟩
   refine callsIn_wide.1 (callsIn_of_wp_marks (n := 0) hfn hc trivial ?_)
   have M := hpre.rel
   have hrel : Rel P (vs ++ Array.replicate (fn.ntmps - vs.size) undef).size w.heap.size B (a5M P env mem) w (· < mem.length) env env { tmps := params 0 args, mem } { tmps := vs ++ Array.replicate (fn.ntmps - vs.size) undef, defers := [] } w := by
    refine ⟨rfl, .nil, rfl, ?_, M.ob, M.ds, M.mu, M.pr, M.ch, M.bb, M.fx, M.gi⟩
    intro t x hx
    rw [d2D, if_pos (Nat.zero_le _), Nat.sub_zero] at hx
    obtain ⟨v, h1, h2⟩ := hargs.get hx
    rw [Array.getElem?_toList] at h1
    have hlt := (f53.1 h1).1
    have : (vs ++ Array.replicate (fn.ntmps - vs.size) undef).getD t undef = v := by
     rw [f56, Array.getElem?_append_left hlt, h1]
     rfl
    rw [this]
    exact a0w.of h2
   have hN : fn.ntmps ≤ (vs ++ Array.replicate (fn.ntmps - vs.size) undef).size := by simp; omega
   refine wpIn_mono (a9S (hX _) hcl hdr (fun _ h => h) n (e0G hN (hP.ok f fn c hfn hc)) (fsW _) (hlo fn c hfn hc) hrel h Fence.wide 0 rfl) ?_
   intro e a' w' hp
   have fin : a1d P (vs ++ Array.replicate (fn.ntmps - vs.size) undef).size w.heap.size B (a5M P env mem) w (· < mem.length) env (fun st => c0g P fn hs.rows mem.length st) r a' w' →
     LeavesInM Fence.wide 0 P fn a'.tmps (fun e w' => ∃ v, e = .returned v ∧ a9Q P B env mem w r v w') a'.defers .returning w' := by
    rintro ⟨env', st', h1, h2⟩
    obtain ⟨ns, d1, d2, d3⟩ := h1.dfr
    rw [d1, List.append_nil]
    have h3 := h1.act (tmps := st'.tmps) (a2 := { tmps := a'.tmps, defers := [] }) (D' := []) .nil h1.tm
    exact b5h (env := env') (st := st') h2 (fun v w q1 q2 => ⟨v, rfl, env', q1, q2⟩) ns h3 d2 d3
   cases e with
   | normal => exact fin hp
   | ret => exact fin hp
   | exit i =>
    obtain ⟨env', st', h1, h2⟩ := hp
    cases h2
   | _ => exact hp.elim
theorem c0z {cl : a0f} {hs : b0U} {n : Nat} {f : FuncId} {args : List V} {mem : AL Obj} {r : Res} (hP : a6B P) (hcl : a0b P cl) (hdr : a1W P cl) (hlo : c7B P hs mem.length f)
  (h : body P cl hs n f args mem = some r) : a1I P f args mem r ∧ a8Y P f :=
 ⟨fun B env w vs hpre hargs => (b1A hP hcl hdr hlo h).1 B env w vs (fun _ => trivial) hpre hargs, (b1A hP hcl hdr hlo h).2⟩
def ext (f : FuncId) (sp : List V → AL Obj → Option (List (Bool × Res))) (T : a0f) : a0f := fun g args mem =>
 bif Nat.beq g f then (match sp args mem with
  | some alts => some alts
  | none => T g args mem) else T g args mem
def c14 : a0f := fun _ _ _ => none
theorem b8r : a0b P c14 := fun _ _ _ _ h => by cases h
theorem a0Y {T : a0f} (hT : a0b P T) {f : FuncId} {sp : List V → AL Obj → Option (List (Bool × Res))} (hent : a8Y P f)
  (h : ∀ args mem alts, sp args mem = some alts → ∀ res, a5f alts some = some res → a1I P f args mem res) : a0b P (ext f sp T) := by
 intro g args mem alts hg
 unfold ext at hg
 cases hb : Nat.beq g f with
 | false => rw [hb] at hg; exact hT g args mem alts hg
 | true =>
  rw [hb] at hg
  have := f5T hb
  subst this
  simp only [cond_true] at hg
  split at hg
  ·rename_i alts' hs
   simp only [f5S] at hg
   subst hg
   exact ⟨hent, h args mem alts' hs⟩
  ·exact hT g args mem alts hg
theorem d45 {X : Ctx} {Fs : a1K} {cl : a0f} {hs' : b0U} {kb : Nat} {b : Code} {f : St → Option (List (Bool × (Ex × St)))} (hcl : a0b P cl) (hdr : a1W P cl) (hfs : b1z Fs b) (hin : ∀ b' ∈ a05 b, c47 P hs' kb b' X Fs)
  (ts ks : List Nat)
  (h : ∀ st alts, f st = some alts → ∀ x, a5f alts some = some x → ∃ n, a68 P cl hs' kb n b st (fun e st => some (e, a60 ts ks st)) = some x) : a7j P kb b f X Fs := by
 intro st alts hst x hx N n0 F B M0 w0 e0 env a w hX hF hok hrel Fe nn hFe
 obtain ⟨n, hn⟩ := h st alts hst x hx
 refine wpIn_mono (a9S hX hcl hdr hF n hok hfs hin hrel hn Fe nn hFe) ?_
 intro e a' w' hp
 cases e with
 | normal => obtain ⟨env', st', h1, h2⟩ := hp; exact ⟨env', _, a1S h1 ts ks, h2⟩
 | exit i => obtain ⟨env', st', h1, h2⟩ := hp; exact ⟨env', _, a1S h1 ts ks, h2⟩
 | ret => obtain ⟨env', st', h1, h2⟩ := hp; exact ⟨env', _, a1S h1 ts ks, h2⟩
 | _ => exact hp.elim
end
end Go.AM

namespace Go.AM
open Go

theorem b8s {α : Type} (p : Nat → Bool) (n : Nat) : ∀ (l : AL α), get (c7b p l) n = if p n = true then get l n else none
 | [] => by simp [c7b, get]
 | (k, v) :: r => by
  have ih := b8s p n r
  simp only [c7b]
  cases hp : p k with
  | true =>
   simp only [cond_true, get, a0v, ih]
   by_cases hk : k = n
   ·subst hk; simp [hp]
   ·rw [cond_false (by simpa using hk), cond_false (by simpa using hk)]
  | false =>
   simp only [cond_false, ih, get, a0v]
   by_cases hk : k = n
   ·subst hk; simp [hp]
   ·rw [cond_false (by simpa using hk)]
theorem c0A {sel : Nat → Bool} {mem : AL Obj} {k : Nat} : ∀ {l : AL Obj}, get (c0e sel l mem) k = if sel k = true then (match get l k with | some x => some x | none => get mem k) else get mem k
 | [] => by simp [c0e, get]
 | (j, o) :: r => by
  have ih := c0A (sel := sel) (mem := mem) (k := k) (l := r)
  simp only [c0e]
  cases hs : sel j with
  | true =>
   simp only [cond_true, a2q, get, a0v]
   by_cases hj : k = j
   ·subst hj; simp [hs]
   ·rw [if_neg hj, ih, cond_false (by simpa using Ne.symm hj)]
  | false =>
   simp only [cond_false, ih, get, a0v]
   by_cases hj : k = j
   ·subst hj; simp [hs]
   ·rw [cond_false (by simpa using Ne.symm hj)]
theorem d2E {l : AL V} {d t : Nat} {x : Option V} : get (c9C l d x) t = if t = d then x.map b9w else get l t := by
 cases x with
 | none => simp [c9C, b1i]
 | some x => simp [c9C, a2q]
theorem a1T {P : Program} {kb : Nat} {o : Oper} {ks : List Nat} {st out : St} {t : Nat} : get (merge P kb o ks st out).tmps t = if o.dst = some t then (get out.tmps t).map b9w else get st.tmps t := by
 unfold merge
 cases hd : o.dst with
 | none => simp
 | some d =>
  simp only [d2E, f5S]
  by_cases h : t = d
  ·subst h; simp
  ·rw [if_neg h, if_neg (Ne.symm h)]
theorem a7S {P : Program} {kb : Nat} {o : Oper} {ks : List Nat} {st out : St} {k : Nat} (hv : a2p P o = false) : get (merge P kb o ks st out).mem k = if c7c P kb o ks k = true then get out.mem k else get st.mem k := by
 unfold merge
 simp only [hv, cond_false, c0A, b8s]
 cases c7c P kb o ks k with
 | true => cases get out.mem k <;> simp
 | false => simp
theorem b2i {P : Program} {kb : Nat} {o : Oper} {ks : List Nat} {st out : St} (hv : a2p P o = true) : (merge P kb o ks st out).mem = st.mem := by
 unfold merge
 simp only [hv, cond_true]

def NoW (st : St) : Prop := ∀ t x, get st.tmps t = some x → ∀ s b y, x ≠ .w s b y
def b5i (P : Program) (kb : Nat) (o : Oper) (st : St) : Prop :=
 (∀ t x, get st.tmps t = some x → ∀ k ∈ a7J x, a0I P kb o k = false) ∧ ∀ k ob, get st.mem k = some ob → a0I P kb o k = false ∧ ∀ k' ∈ a1A ob, a0I P kb o k' = false
theorem a9T (c : C) : a4I c = a2j c := by cases c <;> rfl
section
variable {P : Program} {env env' : Env} {S S' : a0Q} {w w' : World}
theorem a7c.monoK (h : a0O w S w' S') {x : V} {v : Value} (hk : ∀ k ∈ a9H x, env' k = env k) (hr : a7c P env S w x v) : a7c P env' S' w' x v := by
 cases x with
 | c x => exact a0x.mono h (fun k hk' => hk k (by rw [a9T] at hk'; exact hk')) hr
 | g xs =>
  obtain ⟨vs, h1, h2⟩ := hr
  refine ⟨vs, h1, h2.mono fun x y hx => a0x.mono h fun k hk' => hk k ?_⟩
  rw [a9T] at hk'
  exact List.mem_flatMap.2 ⟨x, hx, hk'⟩
 | _ => exact hr.elim
theorem a0G.monoK (h : a0O w S w' S') {x : V} {v : Value} (hk : ∀ k ∈ a7J x, env' k = env k) (hr : a0G P env S w x v) : a0G P env' S' w' x v := by
 cases x with
 | c x => exact a0x.mono h (fun k hk' => hk k (by rw [a9T] at hk'; exact hk')) hr
 | g xs =>
  obtain ⟨vs, h1, h2⟩ := hr
  refine ⟨vs, h1, h2.mono fun x y hx => a0x.mono h fun k hk' => hk k ?_⟩
  rw [a9T] at hk'
  exact List.mem_flatMap.2 ⟨x, hx, hk'⟩
 | t xs =>
  obtain ⟨vs, h1, h2⟩ := hr
  exact ⟨vs, h1, h2.mono fun x y hx => a7c.monoK h fun k hk' => hk k (List.mem_flatMap.2 ⟨x, hx, hk'⟩)⟩
 | w _ _ _ => exact hr.elim
theorem a0w.untagged {a : Act} {x : V} {v : Value} (hn : ∀ s b y, x ≠ .w s b y) (hr : a0w P env S w a x v) : a0G P env S w x v := by
 cases x with
 | w s b y => exact absurd rfl (hn s b y)
 | _ => exact hr
theorem b8t (h : a0O w S w' S') {s : a3R} {o : Obj} (hk : ∀ k ∈ a1A o, env' k = env k) (hh : a08 o → w'.heap[s.blk]? = w.heap[s.blk]?) (hr : a0R P env S w s o) : a0R P env' S' w' s o := by
 cases o with
 | box cs =>
  obtain ⟨cur, T, h1, h2, h3, h4⟩ := hr
  refine ⟨cur, T, by rw [hh trivial]; exact h1, h2, h3.mono fun x y hx hxy => a0x.mono h (fun k hk' => hk k ?_) hxy, h4⟩
  rw [a9T] at hk'
  exact List.mem_flatMap.2 ⟨x, hx, hk'⟩
 | row e ex nl xs => exact a5j h hh hr ex
 | map kt vt es => exact a9M h (hh trivial) hr
 | tab kt vt es =>
  refine c9N h (fun x v hx hxv => a0x.mono h (fun k hk' => hk k ?_) hxv) (hh trivial) hr
  obtain ⟨y, hy, rfl⟩ := List.mem_map.1 hx
  rw [a9T] at hk'
  exact List.mem_flatMap.2 ⟨y, hy, hk'⟩
 | dat T d => exact a9N h (hh trivial) hr
end

section
variable {P : Program} {N n0 kb : Nat} {F : Nat → Prop} {B M0 : a0Q} {w0 : World} {e0 : b0H} {env : Env} {st : St} {a : Act} {w : World}
theorem c15 (h : Rel P N n0 B M0 w0 F e0 env st a w) (hn : NoW st) {m : St} (ht : ∀ t x, get m.tmps t = some x → get st.tmps t = some x) (hm : ∀ k ob, get m.mem k = some ob → get st.mem k = some ob) (F' : Nat → Prop) :
  Rel P N w.heap.size (Sof P B M0 n0 env st.mem w) (a5M P env m.mem) w F' ⟨env, a.defers⟩ env m a w := by
 have hk : a0O w (Sof P B M0 n0 env st.mem w) w (Sof P (Sof P B M0 n0 env st.mem w) (a5M P env m.mem) w.heap.size env m.mem w) := fun b o v hS hv =>
  ⟨⟨.inl hS, hS.2.1, fun key ob hg hmu => hS.2.2 key ob (hm key ob hg) hmu⟩, hv⟩
 refine ⟨h.size, .nil, rfl, fun t x hx => a0w.of (a0G.mono hk (fun _ => rfl) (a0w.untagged (hn t x (ht t x hx)) (h.tm t x (ht t x hx)))), fun key o hg => a1H hk (fun _ => rfl) (h.ob key o (hm key o hg)),
  fun k k' o o' hg hg' => h.ds k k' o o' (hm _ _ hg) (hm _ _ hg'), fun key o b x hg hmu => .inl ⟨key, o, hg, hmu⟩, ?_, Chg.refl _ w, fun b o hS => hS.2.1, fun _ _ => rfl, h.gi.step h.ch fun b o ⟨k, ob, hg, hmu⟩ => (by rw [← h.hn0]; exact h.mu _ _ _ _ (hm k ob hg) hmu)⟩
 intro key e ex xs hg o ho
 cases ex with
 | false => exact .inl (h.rows key e xs (hm _ _ hg) o ho)
 | true => exact .inr (.inr ⟨_, _, hg, rfl, rfl, .inl rfl⟩)
theorem frame (h : Rel P N n0 B M0 w0 F e0 env st a w) (hn : NoW st) {o : Oper} {ks : List Nat} (hc : b5i P kb o st) (hF : ∀ k, F k → a0I P kb o k = false) {m out : St} (hmm : ∀ k, get (merge P kb o ks st out).mem k = if c7c P kb o ks k = true then get out.mem k else get st.mem k)
  (hm : ∀ k, get m.mem k = if k ∈ ks then get st.mem k else none) {env' : Env} {a' : Act} {w' : World}
  (hin : Rel P N w.heap.size (Sof P B M0 n0 env st.mem w) (a5M P env m.mem) w (fun k => a0I P kb o k = false) ⟨env, a.defers⟩ env' out a' w')
  (hfull : ∀ k ob, get out.mem k = some ob → c4x ob = true) (ha : ∀ t, o.dst ≠ some t → a'.tmps.getD t undef = a.tmps.getD t undef) :
  Rel P N n0 B M0 w0 F e0 env' (merge P kb o ks st out) a' w' := by
 have hsub : ∀ k ob, get m.mem k = some ob → get st.mem k = some ob ∧ k ∈ ks := by
  intro k ob hg
  rw [hm] at hg
  by_cases hk : k ∈ ks
  ·rw [if_pos hk] at hg; exact ⟨hg, hk⟩
  ·rw [if_neg hk] at hg; cases hg
 have hMtS : ∀ b x, a5M P env m.mem b x → ∃ k ob, k ∈ ks ∧ get st.mem k = some ob ∧ a47 P (env k) ob b x := fun b x ⟨k, ob, g, q⟩ => ⟨k, ob, (hsub k ob g).2, (hsub k ob g).1, q⟩
 have hget : ∀ k ob, get (merge P kb o ks st out).mem k = some ob → (c7c P kb o ks k = true ∧ get out.mem k = some ob) ∨ (c7c P kb o ks k = false ∧ k ∉ ks ∧ a0I P kb o k = false ∧ env' k = env k ∧ get st.mem k = some ob) := by
  intro k ob hg
  rw [hmm] at hg
  cases hs : c7c P kb o ks k with
  | true => rw [hs] at hg; exact .inl ⟨rfl, by simpa using hg⟩
  | false =>
   rw [hs] at hg
   have hs' := hs
   unfold c7c at hs'
   simp only [Bool.or_eq_false_iff] at hs'
   refine .inr ⟨rfl, fun hk => ?_, hs'.2, hin.fx k hs'.2, by simpa using hg⟩
   rw [a1J.2 hk] at hs'
   cases hs'.1
 -- a block that is not leaned on stays
 have hno : ∀ k ob, k ∉ ks → get st.mem k = some ob → a08 ob → ∀ x, ¬ a5M P env m.mem (env k).blk x := by
  intro k ob hk hg hr x hmu
  obtain ⟨k', ob', h1, h2, h3⟩ := hMtS _ _ hmu
  obtain ⟨h4, h5⟩ := a2A h3
  exact h.ds k k' ob ob' hg h2 hr h4 (fun e => hk (e ▸ h1)) h5
 have hsame : ∀ k ob, k ∉ ks → get st.mem k = some ob → a08 ob → w'.heap[(env k).blk]? = w.heap[(env k).blk]? := fun k ob hk hg hr => c4W hin.ch (b5d (h.ob _ _ hg) hr) (hno k ob hk hg hr)
 -- where the objects that came back lie
 have hreal : ∀ k ob, get out.mem k = some ob → a08 ob → w.heap.size ≤ (env' k).blk ∨ ∃ k' ob', k' ∈ ks ∧ get st.mem k' = some ob' ∧ a08 ob' ∧ (env k').blk = (env' k).blk := by
  intro k ob hg hr
  obtain ⟨x, hx⟩ := d4Z (P := P) (s := env' k) hr (hfull k ob hg)
  rcases hin.mu k ob _ x hg hx with hmu | h1
  ·obtain ⟨k', ob', h1, h2, h3⟩ := hMtS _ _ hmu
   obtain ⟨h4, h5⟩ := a2A h3
   exact .inr ⟨k', ob', h1, h2, h4, h5.symm⟩
  ·exact .inl h1
 have hS1 : a0O w' (Sof P (Sof P B M0 n0 env st.mem w) (a5M P env m.mem) w.heap.size env' out.mem w') w' (Sof P B M0 n0 env' (merge P kb o ks st out).mem w') := by
  intro b x u hS hcell
  refine ⟨⟨?_, hS.2.1, ?_⟩, hcell⟩
  ·rcases hS.1 with h1 | h1 | h1
   ·exact h1.1
   ·exact .inr (.inl (Nat.le_trans h.n0le h1))
   ·obtain ⟨k, ob, _, h2, h3⟩ := hMtS _ _ h1
    rcases h.mu _ _ _ _ h2 h3 with h4 | h4
    ·exact .inr (.inr h4)
    ·exact .inr (.inl h4)
  ·intro key ob hg hmu
   rcases hget key ob hg with ⟨_, h2⟩ | ⟨_, h2, _, h3, h4⟩
   ·exact hS.2.2 key ob h2 hmu
   ·rw [h3] at hmu
    obtain ⟨r1, r2⟩ := a2A hmu
    rcases hS.1 with q | q | q
    ·exact q.2.2 key ob h4 hmu
    ·have := b5d (h.ob _ _ h4) r1
     omega
    ·rw [r2] at q
     exact hno key ob h2 h4 r1 x q
 have hkeys : ∀ k, a0I P kb o k = false → env' k = env k := fun k hk => hin.fx k hk
 obtain ⟨tm0, hst⟩ : ∃ t, t = st := ⟨st, rfl⟩
 have hmu' : ∀ k ob b x, get (merge P kb o ks st out).mem k = some ob → a47 P (env' k) ob b x → w.heap.size ≤ b ∨ ∃ k' ob', get st.mem k' = some ob' ∧ a47 P (env k') ob' b x := by
  intro k ob b x hg hmu
  rcases hget k ob hg with ⟨_, h2⟩ | ⟨_, _, _, h3, h4⟩
  ·rcases hin.mu k ob b x h2 hmu with q | q
   ·obtain ⟨k', ob', _, q2, q3⟩ := hMtS _ _ q
    exact .inr ⟨k', ob', q2, q3⟩
   ·exact .inl q
  ·rw [h3] at hmu
   exact .inr ⟨k, ob, h4, hmu⟩
 have hkeep := c9L (B := B) (M0 := M0) (n0 := n0) (mem' := (merge P kb o ks st out).mem) (env' := env') hin.ch (fun b x hx => let ⟨k, ob, _, q2, q3⟩ := hMtS b x hx; ⟨k, ob, q2, q3⟩) hmu'
 have hdfr : a2K n0 w' e0.D a'.defers := h.dfr.join hin.dfr h.n0le fun b hb => hin.ch.other b _ hb fun x ⟨k, ob, g, q⟩ => b4j (h.ob k ob (hsub k ob g).1) q hb
 refine ⟨hin.size, hdfr, h.hn0, ?_, ?_, ?_, ?_, ?_, ?_, h.bb, ?_, h.gi⟩
 ·intro t x hx
  rw [a1T] at hx
  by_cases hd : o.dst = some t
  ·rw [if_pos hd] at hx
   cases hg : get out.tmps t with
   | none => rw [hg] at hx; cases hx
   | some y =>
    rw [hg] at hx
    simp only [f6b, f5S] at hx
    subst hx
    exact a0w.of (a0G.mono hS1 (fun _ => rfl) (a5K (hin.tm t y hg)))
  ·rw [if_neg hd] at hx
   rw [ha t hd]
   exact a0w.of (a0G.monoK hkeep (fun k hk => hkeys k (hc.1 t x hx k hk)) (a0w.untagged (hn t x hx) (h.tm t x hx)))
 ·intro key ob hg
  rcases hget key ob hg with ⟨_, h2⟩ | ⟨_, h2, _, h3, h4⟩
  ·exact a1H hS1 (fun _ => rfl) (hin.ob key ob h2)
  ·rw [h3]
   exact b8t hkeep (fun k hk => hkeys k ((hc.2 key ob h4).2 k hk)) (hsame key ob h2 h4) (h.ob key ob h4)
 ·intro k1 k2 o1 o2 hg1 hg2 hr1 hr2 hne heq
  have cross : ∀ k k' ob ob', get out.mem k = some ob → a08 ob → k' ∉ ks → env' k' = env k' → get st.mem k' = some ob' → a08 ob' → (env' k).blk ≠ (env' k').blk := by
   intro k k' ob ob' g r hk' he' g' r' hb
   have hlt := b5d (h.ob _ _ g') r'
   rw [he'] at hb
   rcases hreal k ob g r with q | ⟨k'', ob'', q1, q2, q3, q4⟩
   ·omega
   ·exact h.ds k'' k' ob'' ob' q2 g' q3 r' (fun e => hk' (e ▸ q1)) (q4.trans hb)
  rcases hget k1 o1 hg1 with ⟨_, h2⟩ | ⟨_, h2, _, h3, h4⟩ <;> rcases hget k2 o2 hg2 with ⟨_, p2⟩ | ⟨_, p2, _, p3, p4⟩
  ·exact hin.ds k1 k2 o1 o2 h2 p2 hr1 hr2 hne heq
  ·exact cross k1 k2 o1 o2 h2 hr1 p2 p3 p4 hr2 heq
  ·exact cross k2 k1 o2 o1 p2 hr2 h2 h3 h4 hr1 heq.symm
  ·rw [h3, p3] at heq
   exact h.ds k1 k2 o1 o2 h4 p4 hr1 hr2 hne heq
 ·intro k ob b x hg hmu
  rcases hmu' k ob b x hg hmu with q | ⟨k', ob', q1, q2⟩
  ·exact .inr (Nat.le_trans h.n0le q)
  ·exact h.mu k' ob' b x q1 q2
 ·intro key e ex xs hg x hx
  rcases hget key _ hg with ⟨_, h2⟩ | ⟨_, h2, _, h3, h4⟩
  ·rcases hin.pr key e ex xs h2 x hx with q | q | q
   ·exact q.1
   ·exact .inr (.inl (Nat.le_trans h.n0le q))
   ·obtain ⟨k', ob', _, q2, q3⟩ := hMtS _ _ q
    rcases h.mu _ _ _ _ q2 q3 with q4 | q4
    ·exact .inr (.inr q4)
    ·exact .inr (.inl q4)
  ·rw [h3]
   exact h.pr key e ex xs h4 x hx
 ·refine Chg.trans h.ch hin.ch fun b x hx => ?_
  obtain ⟨k', ob', _, q2, q3⟩ := hMtS _ _ hx
  rw [← h.hn0]
  exact h.mu _ _ _ _ q2 q3
 ·intro k hk
  exact (hkeys k (hF k hk)).trans (h.fx k hk)
theorem e0I {o : Oper} {K : Act → World → Prop} {Q : Exit → Act → World → Prop} (h : o.wp P a w K Q) : o.wp P a w (fun a' w' => K a' w' ∧ ∀ t, o.dst ≠ some t → a'.tmps.getD t undef = a.tmps.getD t undef) Q := by
 have hput : ∀ (a1 : Act) v, a1.tmps = a.tmps → ∀ t, o.dst ≠ some t → (a1.put o.dst v).tmps.getD t undef = a.tmps.getD t undef := by
  intro a1 v he t ht
  cases hd : o.dst with
  | none => simp only [Act.put]; rw [he]
  | some d => rw [a7P (fun e => ht (by rw [hd, e])), he]
 unfold Oper.wp at h ⊢
 generalize (execOp a.eval o).run P w = r at h ⊢
 cases r with
 | ok n w' =>
  cases n <;> simp only [Oper.upon] at h ⊢ <;>
   first
    | exact ⟨h, hput _ _ rfl⟩
    | exact Calls.mono h (fun e w'' he => by cases e <;> first | exact ⟨he, hput _ _ rfl⟩ | exact he)
    | exact Rows.mono h (fun _ _ he => ⟨he, hput _ _ rfl⟩)
    | exact h
 | halt x w' => cases x <;> simp only [Oper.upon] at h ⊢ <;> exact h
end
end Go.AM

namespace Go.AM
open Go

theorem a0n {α β : Type} (b : Bool) (x y : Option α) (k : α → Option β) : (bif b then x else y).bind k = bif b then x.bind k else y.bind k := by cases b <;> rfl
theorem b5j {R : Type} {kb : Nat} {mem : AL Obj} {x : List Ref × List (Bool × Res)} {o : Oper} {st : St} {k : St → Option R} : b1g kb mem x o st k = (b1g kb mem x o st some).bind k := by
 unfold b1g
 simp only
 rw [a7h]
 conv => rhs; rw [a7h, Option.bind_assoc]
 cases a5f x.2 some with
 | none => rfl
 | some r =>
 simp only [Option.bind_some]
 generalize (a5H r && _ && _) = b
 cases b with
 | false => rfl
 | true =>
  simp only [cond_true]
  split <;> rfl
theorem c7D {R : Type} {P : Program} {cl : a0f} {kb : Nat} {f : FuncId} {args : List V} {o : Oper} {st : St} {k : St → Option R} : c0c P cl kb f args o st k = (c0c P cl kb f args o st some).bind k := by
 unfold c0c
 split
 ·rfl
 ·split
  ·exact b5j
  ·simp only
   split
   ·exact b5j
   ·rfl
theorem c5a {R : Type} {P : Program} {kb d : Nat} {st : St} {e : Operand → V} {T : TypeId} {x : Operand} {lo hi mx : Option Operand} {k : St → Option R} : b7M P kb d st e T x lo hi mx k = (b7M P kb d st e T x lo hi mx some).bind k := by
 unfold b7M
 split
 ·split
  ·rw [a0n]; rfl
  ·rfl
 split
 ·split
  ·rw [a0n]; rfl
  ·rfl
 ·split
  ·split
   ·rw [a0n]; rfl
   ·rfl
  ·split
   ·rfl
   ·rw [a0n]
    congr 1
    ·split
     ·rw [a0n]; rfl
     ·rfl
    ·split
     ·rw [a0n]; rfl
     ·rfl
theorem b8u {R : Type} {n : Int} {k : St → Option R} {g : Nat → D → St} : ∀ {xs : List D} {j : Nat}, e3Z n (fun j y => k (g j y)) j xs = (e3Z n (fun j y => some (g j y)) j xs).bind k
 | [], _ => rfl
 | x :: xs, j => by
  simp only [e3Z]
  rw [a0n, ← b8u]
  rfl
theorem d2F {R : Type} {P : Program} {st : St} {d : Nat} {T : TypeId} {x i : V} {k : St → Option R} : d2e P st d T x i k = (d2e P st d T x i some).bind k := by
 unfold d2e
 split
 ·rw [a0n, b8u]; rfl
 ·split
  ·rw [a0n, b8u]; rfl
  ·rfl
 ·rw [a0n]; rfl
 ·rfl
theorem d46 {R : Type} {P : Program} {cl : a0f} {kb : Nat} {o : Oper} {st : St} {k : St → Option R} : e89 P cl kb o st k = (e89 P cl kb o st some).bind k := by
 unfold e89
 simp only
 split
 ·rw [a0n]
  congr 1
  ·split <;> rfl
  ·split <;> rfl
 ·rw [a0n]
  congr 1
  ·split <;> rfl
  ·split <;> rfl
 ·split
  ·rw [a0n]; rfl
  ·rfl
 ·split
  ·split
   ·split
    ·rw [a0n]; rfl
    ·rfl
   ·split
    ·split
     ·rw [a0n]; rfl
     ·rfl
    ·rfl
  ·rfl
 ·split
  ·split
   ·rw [a0n]; rfl
   ·rfl
  ·rfl
 ·exact c5a
 ·split
  ·rw [a0n]; rfl
  ·split
   ·rw [a0n]; rfl
   ·rfl
  ·rfl
 ·split <;> rfl
 ·split
  ·split
   ·rw [a0n]
    congr 1
    split
    ·split <;> rfl
    ·rfl
   ·rfl
  ·rfl
 ·split
  ·split
   ·rw [a0n]
    congr 1
    split
    ·split <;> rfl
    ·split
     ·rw [a0n]; rfl
     ·rfl
    ·rfl
   ·rw [a0n]
    congr 1
    split
    ·split
     ·split
      ·rw [a0n]; rfl
      ·rfl
     ·rfl
    ·rfl
   ·rfl
  ·rfl
 ·rw [a0n]
  congr 1
  split
  ·split
   ·rw [a0n]
    congr 1
    split
    ·split
     ·rw [c1S, c1S]; rfl
     ·rfl
    ·rfl
   ·rw [a0n]
    congr 1
    split
    ·split
     ·split <;> rfl
     ·rfl
    ·rfl
   ·rfl
  ·rfl
 ·rw [a0n, ← d2F]; rfl
 ·split
  ·split
   ·rw [a0n]
    congr 1
    ·split
     ·split
      ·rw [a0n]; rfl
      ·rfl
     ·split
      ·rw [a0n]; rfl
      ·rfl
     ·split
      ·rw [a0n]; rfl
      ·rfl
     ·split
      ·rw [a0n]; rfl
      ·rfl
     ·rfl
    split
    ·split
     ·rw [a0n]; rfl
     ·rfl
    ·rw [a0n]
     congr 1
     split
     ·split
      ·split
       ·rw [a0n]; rfl
       ·rfl
      ·rw [a0n]; rfl
      ·rw [a0n]; rfl
      ·rw [a0n]
       congr 1
       rw [a0n]; rfl
      ·rfl
     ·rfl
    ·rfl
   ·rfl
  ·split
   ·split
    ·split
     ·rw [a0n]; rfl
     ·rfl
    ·rfl
   ·rfl
  ·split
   ·split
    ·rfl
    ·exact c7D
   ·rfl
  ·rfl
 ·rfl
theorem c9Z {R : Type} {P : Program} {cl : a0f} {kb : Nat} {o : Oper} {st : St} {k : St → Option R} : opC P cl kb o st k = (opC P cl kb o st some).bind k := by
 unfold opC
 rw [a0n]
 congr 1
 ·split
  ·rw [a0n]; rfl
  ·rfl
 ·exact d46
theorem b2j {R : Type} {P : Program} {cl : a0f} {kb : Nat} {ops : List Oper} {o : Oper} {st : St} {k : St → Option R} : a4B P cl kb ops o st k = (a4B P cl kb ops o st some).bind k := by
 unfold a4B
 split
 ·exact c9Z
 ·split
  ·rfl
  ·split
   ·rw [a0n]; rw [← c9Z]; rfl
   ·rfl
theorem c5b {R : Type} {gs : List Nat} {o : Oper} {out : St} {k : St → Option R} : a3U gs o out k = (a3U gs o out some).bind k := by
 unfold a3U
 split
 ·rw [a0n]
  congr 1
  split
  ·rw [a0n]; rfl
  ·rfl
 ·rfl
structure d2G (P : Program) (cl : a0f) (kb : Nat) (ops : List Oper) (gs : List Nat) (o : Oper) (st : St) (rec : Rec) : Prop where
 op : rec.o = o
 ks : b7O st.mem (a07 o) 1000 (a8N o st.tmps (looks ops o)) [] = some rec.ks
 out : (a4B P cl kb ops o (d4u ops o st rec.ks) fun out => a3U gs o out some) = some rec.out
theorem c5c {R : Type} {P : Program} {cl : a0f} {kb : Nat} {ops : List Oper} {gs : List Nat} {o : Oper} {st : St} {k : St → Rec → Option R} {r : R} (h : e5u P cl kb ops gs o st k = some r) :
  ∃ rec, d2G P cl kb ops gs o st rec ∧ k (merge P kb o rec.ks st rec.out) rec = some r := by
 unfold e5u at h
 split at h
 ·cases h
 ·rename_i ks hks
  rw [b2j] at h
  cases h1 : a4B P cl kb ops o (d4u ops o st ks) some with
  | none => rw [h1] at h; cases h
  | some out =>
   rw [h1] at h
   simp only [Option.bind_some] at h
   rw [c5b] at h
   cases h2 : a3U gs o out some with
   | none => rw [h2] at h; cases h
   | some out' =>
    rw [h2] at h
    refine ⟨⟨o, ks, out'⟩, ⟨rfl, hks, ?_⟩, h⟩
    rw [b2j, h1]
    exact h2

section
variable {P : Program} {N n0 kb : Nat} {F : Nat → Prop} {B M0 : a0Q} {w0 : World} {e0 : b0H} {env : Env} {st : St} {a : Act} {w : World}
theorem b5V {R : Type} {cl : a0f} {ops : List Oper} {o : Oper} {k : St → Option R} {r : R} (h : a4B P cl kb ops o st k = some r) : b4a P cl kb ops o st k = some r := by
 unfold a4B at h
 unfold b4a
 split at h
 ·exact h
 ·split at h
  ·cases h
  ·split at h
   ·rename_i hx
    first | exact h | (split; (rename_i hy; rw [hx] at hy; cases hy; exact h); (rename_i hy; rw [hx] at hy; cases hy))
   ·cases h
theorem c7E {gs : List Nat} {o : Oper} {out out' : St} (h : a3U gs o out some = some out') : out'.mem = out.mem := by
 unfold a3U at h
 split at h
 ·rename_i d hd
  cases hb : b37 d gs with
  | false => rw [hb] at h; simp only [cond_false, f5S] at h; subst h; rfl
  | true =>
   rw [hb] at h
   simp only [cond_true] at h
   split at h
   ·rename_i x hx
    cases x <;> (simp only [cond_true, cond_false, f5S] at h; subst h; rfl)
   ·simp only [f5S] at h; subst h; rfl
 ·simp only [f5S] at h; subst h; rfl
theorem c5d {cl : a0f} {ops : List Oper} {gs : List Nat} {o : Oper} {out : St} (hv : a2p P o = true) (h : (a4B P cl kb ops o st fun out => a3U gs o out some) = some out) : out.mem = st.mem := by
 have put : ∀ (x : V), a3U gs o (st.put o.dst x) some = some out → out.mem = st.mem := fun x hx => by
  rw [c7E hx]
  cases o.dst <;> rfl
 have op : opC P cl kb o st (fun out => a3U gs o out some) = some out → out.mem = st.mem := by
  intro hk
  unfold opC at hk
  rw [hv] at hk
  simp only [cond_true] at hk
  split at hk
  ·rename_i c x _
   cases c with
   | false => cases hk
   | true => exact put x hk
  ·cases hk
 unfold a4B at h
 split at h
 ·exact op h
 ·split at h
  ·cases h
  ·split at h
   ·rename_i x _
    cases x with
    | true => exact op h
    | false => exact put _ h
   ·cases h
theorem c16 (h : Rel P N n0 B M0 w0 F e0 env st a w) {gs : List Nat} {o : Oper} {out : St} (hs : a3U gs o st some = some out) : Rel P N n0 B M0 w0 F e0 env out a w := by
 unfold a3U at hs
 split at hs
 ·rename_i d hd
  cases hb : b37 d gs with
  | false => rw [hb] at hs; simp only [cond_false, f5S] at hs; subst hs; exact h
  | true =>
   rw [hb] at hs
   simp only [cond_true] at hs
   split at hs
   ·rename_i x hx
    have hv : a.tmps.getD d undef = .bool x := h.tm d _ hx
    have put : Rel P N n0 B M0 w0 F e0 env { st with tmps := set st.tmps d (.c (.k x)) } a w := by
     refine h.tmps fun t' y hy => ?_
     rw [a2q] at hy
     by_cases ht : t' = d
     ·rw [if_pos ht] at hy
      simp only [f5S] at hy
      subst hy ht
      exact hv
     ·rw [if_neg ht] at hy
      exact h.tm t' y hy
    cases x <;> (simp only [cond_true, cond_false, f5S] at hs; subst hs; exact put)
   ·simp only [f5S] at hs; subst hs; exact h
 ·simp only [f5S] at hs; subst hs; exact h
theorem a7k {o : Oper} (hv : a2p P o = true) (k : Nat) : a0I P kb o k = false := by
 unfold a0I
 rw [hv]
 rfl
theorem c0B {cl : a0f} (hcl : a0b P cl) {ops : Array Oper} {gs : List Nat} {o : Oper} {rec : Rec} {K : Act → World → Prop} {Q : Exit → Act → World → Prop} (hF : ∀ k, F k → a0I P kb o k = false) (h : Rel P N n0 B M0 w0 F e0 env st a w) (hn : NoW st) (hc : b5i P kb o st)
  (hd : ∀ d, o.dst = some d → d < N) (hr : d2G P cl kb ops.toList gs o st rec) (hfull : ∀ k ob, get rec.out.mem k = some ob → c4x ob = true)
  (hK : ∀ env' a' w', Rel P N n0 B M0 w0 F e0 env' (merge P kb o rec.ks st rec.out) a' w' → K a' w') :
  if Region.wanted o (yielded ops a.tmps) then o.wp P a w K Q else K (a.put o.dst undef) w := by
 have hmk : ∀ k, get (d4u ops.toList o st rec.ks).mem k = if k ∈ rec.ks then get st.mem k else none := fun k => a7i
 have hmt : ∀ t x, get (d4u ops.toList o st rec.ks).tmps t = some x → get st.tmps t = some x := by
  intro t x hx
  unfold d4u at hx
  simp only [a7i] at hx
  split at hx
  ·exact hx
  ·cases hx
 have hmm : ∀ k ob, get (d4u ops.toList o st rec.ks).mem k = some ob → get st.mem k = some ob := by
  intro k ob hg
  rw [hmk] at hg
  split at hg
  ·exact hg
  ·cases hg
 have hin0 := c15 h hn hmt hmm (fun k => a0I P kb o k = false)
 have hsel : ∀ k, get (merge P kb o rec.ks st rec.out).mem k = if c7c P kb o rec.ks k = true then get rec.out.mem k else get st.mem k := by
  intro k
  cases hv : a2p P o with
  | false => exact a7S hv
  | true =>
   rw [b2i hv, c5d hv hr.out, hmk]
   unfold c7c
   rw [a7k hv, Bool.or_false]
   by_cases hk : k ∈ rec.ks
   ·rw [if_pos (a1J.2 hk), if_pos hk]
   ·rw [if_neg (fun hb => hk (a1J.1 hb))]
 have hg := a5k (Q := Q) hcl (F := fun k => a0I P kb o k = false) (fun k h1 h2 => by rw [h1] at h2; cases h2) hin0 hd (b5V hr.out)
 have fin : ∀ a' w', a1d P N w.heap.size (Sof P B M0 n0 env st.mem w) (a5M P env (d4u ops.toList o st rec.ks).mem) w (fun k => a0I P kb o k = false) ⟨env, a.defers⟩ (fun out => a3U gs o out some) rec.out a' w' →
   (∀ t, o.dst ≠ some t → a'.tmps.getD t undef = a.tmps.getD t undef) → K a' w' := by
  rintro a' w' ⟨env', st', h1, h2⟩ ha
  exact hK env' a' w' (frame h hn hc hF hsel hmk (c16 h1 h2) hfull ha)
 split
 ·rename_i hw
  rw [if_pos hw] at hg
  exact Oper.wp_mono (fun a' w' hp => fin a' w' hp.1 hp.2) (e0I hg)
 ·rename_i hw
  rw [if_neg hw] at hg
  refine fin _ _ hg fun t ht => ?_
  cases hdd : o.dst with
  | none => rfl
  | some d => rw [a7P (fun e => ht (by rw [hdd, e]))]
end
end Go.AM

namespace Go.AM
open Go

def c5e (st st' : St) : Prop := (∀ t, get st.tmps t = get st'.tmps t) ∧ ∀ k, get st.mem k = get st'.mem k
theorem c5e.refl (st : St) : c5e st st := ⟨fun _ => rfl, fun _ => rfl⟩
theorem c5e.symm {st st' : St} (h : c5e st st') : c5e st' st := ⟨fun t => (h.1 t).symm, fun k => (h.2 k).symm⟩
theorem c5e.trans {st st' st'' : St} (h : c5e st st') (h' : c5e st' st'') : c5e st st'' := ⟨fun t => (h.1 t).trans (h'.1 t), fun k => (h.2 k).trans (h'.2 k)⟩
theorem a83 {α : Type} {l l' : AL α} : ∀ {ks : List Nat}, (∀ k ∈ ks, get l k = get l' k) → a2M l ks = a2M l' ks
 | [], _ => rfl
 | k :: r, h => by
  simp only [a2M]
  rw [h k (by simp), a83 (ks := r) fun k' hk' => h k' (by simp [hk'])]
theorem b00 {l l' : AL V} : ∀ {ts : List Nat}, (∀ t ∈ ts, get l t = get l' t) → b10 l ts = b10 l' ts
 | [], _ => rfl
 | t :: r, h => by
  simp only [b10]
  rw [h t (by simp), b00 (ts := r) fun k' hk' => h k' (by simp [hk'])]
theorem b8v {mem : AL Obj} {deep : Bool} : ∀ {n : Nat} {todo acc ks : List Nat}, b7O mem deep n todo acc = some ks → ∀ k ∈ acc, k ∈ ks
 | 0, _, _, _, h => by cases h
 | n + 1, [], acc, ks, h => by simp only [b7O, f5S] at h; subst h; exact fun k hk => hk
 | n + 1, x :: r, acc, ks, h => by
  simp only [b7O] at h
  intro k hk
  cases hb : b37 x acc with
  | true => rw [hb] at h; exact b8v h k hk
  | false => rw [hb] at h; exact b8v h k (by simp [hk])
theorem b1B {mem mem' : AL Obj} {deep : Bool} : ∀ {n : Nat} {todo acc ks : List Nat}, b7O mem deep n todo acc = some ks → (∀ k ∈ ks, get mem k = get mem' k) → b7O mem' deep n todo acc = some ks
 | 0, _, _, _, h, _ => by cases h
 | n + 1, [], acc, ks, h, _ => h
 | n + 1, x :: r, acc, ks, h, hk => by
  simp only [b7O] at h ⊢
  cases hb : b37 x acc with
  | true => rw [hb] at h; exact b1B h hk
  | false =>
   rw [hb] at h
   simp only [cond_false] at h ⊢
   have hx : x ∈ ks := b8v h x (by simp)
   have : c9B mem' x = c9B mem x := by unfold c9B; rw [hk x hx]
   rw [this]
   exact b1B h hk
theorem a84 {P : Program} {kb : Nat} {o : Oper} {ks : List Nat} {st out : St} {k : Nat} : get (merge P kb o ks st out).mem k = if a2p P o = false ∧ c7c P kb o ks k = true then get out.mem k else get st.mem k := by
 cases hv : a2p P o with
 | true => rw [b2i hv]; simp
 | false => rw [a7S hv]; simp
theorem c7F {P : Program} {kb : Nat} {o : Oper} {ks : List Nat} {st st' out : St} (h : c5e st st') : c5e (merge P kb o ks st out) (merge P kb o ks st' out) := by
 refine ⟨fun t => ?_, fun k => ?_⟩
 ·rw [a1T, a1T, h.1]
 ·rw [a84, a84, h.2]

structure c17 (P : Program) (kb : Nat) (ops : List Oper) (p q : Oper) (kp kq : List Nat) : Prop where
 pq : ∀ d, p.dst = some d → d ∉ looks ops q
 qp : ∀ d, q.dst = some d → d ∉ looks ops p
 dd : ∀ d, p.dst = some d → q.dst ≠ some d
 ks : (a2p P p = true ∧ a2p P q = true) ∨ ∀ k ∈ kp, k ∉ kq
 fq : ∀ k ∈ kp, a0I P kb q k = false
 fp : ∀ k ∈ kq, a0I P kb p k = false
 ff : ∀ k, a0I P kb p k = true → a0I P kb q k = false
section
variable {P : Program} {cl : a0f} {kb : Nat} {ops : List Oper} {gs : List Nat}
theorem c17.symm {p q : Oper} {kp kq : List Nat} (h : c17 P kb ops p q kp kq) : c17 P kb ops q p kq kp :=
 ⟨h.qp, h.pq, fun d hq hp => h.dd d hp hq, h.ks.imp (fun x => ⟨x.2, x.1⟩) fun x k hk hk' => x k hk' hk, h.fp, h.fq, fun k hq => by
  cases hp : a0I P kb p k with
  | false => rfl
  | true => rw [h.ff k hp] at hq; cases hq⟩
theorem d2G.congr {o : Oper} {st st' : St} {rec : Rec} (h : d2G P cl kb ops gs o st rec) (ht : ∀ t ∈ looks ops o, get st.tmps t = get st'.tmps t) (hm : ∀ k ∈ rec.ks, get st.mem k = get st'.mem k) : d2G P cl kb ops gs o st' rec := by
 refine ⟨h.op, ?_, ?_⟩
 ·have e : a8N o st'.tmps (looks ops o) = a8N o st.tmps (looks ops o) := by unfold a8N; rw [b00 ht]
  rw [e]; exact b1B h.ks hm
 ·have : d4u ops o st' rec.ks = d4u ops o st rec.ks := by unfold d4u; rw [a83 ht, a83 hm]
  rw [this]; exact h.out
theorem c17.still {p q : Oper} {kp kq : List Nat} (h : c17 P kb ops p q kp kq) (st out : St) :
  (∀ t ∈ looks ops q, get (merge P kb p kp st out).tmps t = get st.tmps t) ∧ ∀ k ∈ kq, get (merge P kb p kp st out).mem k = get st.mem k := by
 refine ⟨fun t ht => ?_, fun k hk => ?_⟩
 ·rw [a1T, if_neg fun e => h.pq t e ht]
 ·rw [a84]
  split
  ·rename_i hs
   obtain ⟨h1, h2⟩ := hs
   unfold c7c at h2
   rw [h.fp k hk, Bool.or_false] at h2
   rcases h.ks with h3 | h3
   ·rw [h3.1] at h1; cases h1
   ·exact absurd hk (h3 k (a1J.1 h2))
  ·rfl
theorem c17.swap {p q : Oper} {kp kq : List Nat} (h : c17 P kb ops p q kp kq) (st op oq : St) : c5e (merge P kb q kq (merge P kb p kp st op) oq) (merge P kb p kp (merge P kb q kq st oq) op) := by
 refine ⟨fun t => ?_, fun k => ?_⟩
 ·simp only [a1T]
  by_cases hp : p.dst = some t
  ·rw [if_pos hp, if_pos hp, if_neg (h.dd t hp)]
  ·rw [if_neg hp, if_neg hp]
 ·simp only [a84]
  by_cases hp : a2p P p = false ∧ c7c P kb p kp k = true
  ·rw [if_pos hp, if_pos hp, if_neg ?_]
   rintro ⟨h1, h2⟩
   obtain ⟨h3, h4⟩ := hp
   unfold c7c at h2 h4
   simp only [Bool.or_eq_true, a1J] at h2 h4
   rcases h4 with h4 | h4
   ·rcases h2 with h2 | h2
    ·rcases h.ks with h5 | h5
     ·rw [h5.1] at h3; cases h3
     ·exact h5 k h4 h2
    ·rw [h.fq k h4] at h2; cases h2
   ·rcases h2 with h2 | h2
    ·rw [h.fp k h2] at h4; cases h4
    ·rw [h.ff k h4] at h2; cases h2
  ·rw [if_neg hp, if_neg hp]

def a7l (P : Program) (cl : a0f) (kb : Nat) (ops : List Oper) (gs : List Nat) (rc : Nat → Rec) : List Nat → St → St → Prop
 | [], st, stF => c5e st stF
 | i :: r, st, stF => ∃ o, ops[i]? = some o ∧ d2G P cl kb ops gs o st (rc i) ∧ a7l P cl kb ops gs rc r (merge P kb o (rc i).ks st (rc i).out) stF
def c18 (P : Program) (kb : Nat) (ops : List Oper) (rc : Nat → Rec) (i j : Nat) : Prop := ∀ p q, ops[i]? = some p → ops[j]? = some q → c17 P kb ops p q (rc i).ks (rc j).ks
variable {rc : Nat → Rec}
theorem a7l.congr : ∀ {l : List Nat} {st st' stF : St}, c5e st st' → a7l P cl kb ops gs rc l st stF → a7l P cl kb ops gs rc l st' stF
 | [], _, _, _, h, hr => h.symm.trans hr
 | _ :: _, _, _, _, h, ⟨o, h1, h2, h3⟩ => ⟨o, h1, h2.congr (fun t _ => h.1 t) (fun k _ => h.2 k), a7l.congr (c7F h) h3⟩
theorem a7l.swap {i j : Nat} {l : List Nat} {st stF : St} (ha : c18 P kb ops rc i j) (h : a7l P cl kb ops gs rc (i :: j :: l) st stF) : a7l P cl kb ops gs rc (j :: i :: l) st stF := by
 obtain ⟨p, p1, p2, q, q1, q2, h3⟩ := h
 have hap := ha p q p1 q1
 obtain ⟨s1, s2⟩ := hap.still st (rc i).out
 obtain ⟨s3, s4⟩ := hap.symm.still st (rc j).out
 exact ⟨q, q1, q2.congr s1 s2, p, p1, p2.congr (fun t ht => (s3 t ht).symm) (fun k hk => (s4 k hk).symm), a7l.congr (hap.swap st _ _) h3⟩
theorem a7l.front {i : Nat} {B : List Nat} {stF : St} : ∀ {A : List Nat} {st : St}, (∀ x ∈ A, c18 P kb ops rc x i) → a7l P cl kb ops gs rc (A ++ i :: B) st stF → a7l P cl kb ops gs rc (i :: (A ++ B)) st stF
 | [], _, _, h => h
 | x :: A, st, ha, ⟨p, p1, p2, h3⟩ => a7l.swap (ha x (by simp)) ⟨p, p1, p2, a7l.front (fun y hy => ha y (by simp [hy])) h3⟩

theorem b5k {α : Type} {f : Nat → α → Bool} : ∀ {j0 : Nat} {l : List α}, b6e f j0 l = true → ∀ j q, l[j]? = some q → f (j0 + j) q = true
 | _, [], _, j, q, hq => by simp at hq
 | j0, x :: r, h, j, q, hq => by
  simp only [b6e, f5U] at h
  cases j with
  | zero => simp only [List.getElem?_cons_zero, f5S] at hq; subst hq; exact h.1
  | succ j => rw [show j0 + (j + 1) = j0 + 1 + j by omega]; exact b5k h.2 j q (by simpa using hq)
theorem a4M {α : Type} {f : Nat → α → Nat → α → Bool} : ∀ {i0 : Nat} {l : List α}, b11 f i0 l = true → ∀ i j p q, i < j → l[i]? = some p → l[j]? = some q → f (i0 + i) p (i0 + j) q = true
 | _, [], _, i, j, p, q, _, hp, _ => by simp at hp
 | i0, x :: r, h, i, j, p, q, hij, hp, hq => by
  simp only [b11, f5U] at h
  cases j with
  | zero => omega
  | succ j =>
   cases i with
   | zero =>
    simp only [List.getElem?_cons_zero, f5S] at hp
    subst hp
    have := b5k h.1 j q (by simpa using hq)
    rw [show i0 + (j + 1) = i0 + 1 + j by omega]
    exact this
   | succ i =>
    rw [show i0 + (i + 1) = i0 + 1 + i by omega, show i0 + (j + 1) = i0 + 1 + j by omega]
    exact a4M h.2 i j p q (by omega) (by simpa using hp) (by simpa using hq)
theorem a85 : ∀ {i0 : Nat} {l : List Oper}, d2h i0 l = true → ∀ i o, l[i]? = some o → ∀ d ∈ a6Z o, d < i0 + i
 | _, [], _, i, o, ho => by simp at ho
 | i0, x :: r, h, i, o, ho => by
  simp only [d2h, f5U, List.all_eq_true] at h
  cases i with
  | zero =>
   simp only [List.getElem?_cons_zero, f5S] at ho
   subst ho
   exact fun d hd => f54 (h.1 d hd)
  | succ i => rw [show i0 + (i + 1) = i0 + 1 + i by omega]; exact a85 h.2 i o (by simpa using ho)
theorem b2k {k : Nat} : ∀ {l xs : List Nat}, k ∈ d2g xs l → k ∈ xs ∨ k ∈ l
 | [], xs, h => .inl h
 | y :: r, xs, h => by
  simp only [d2g] at h
  cases hb : b37 y xs with
  | true => rw [hb] at h; exact (b2k h).imp id fun h => by simp [h]
  | false =>
   rw [hb] at h
   rcases b2k h with h | h
   ·rcases f59.1 h with h | h
    ·exact .inr (by simp [h])
    ·exact .inl h
   ·exact .inr (by simp [h])
theorem c0C {tab : List (List Nat)} {k : Nat} : ∀ {l acc : List Nat}, k ∈ c9D tab l acc → k ∈ acc ∨ ∃ d ∈ l, k = d ∨ k ∈ tab.getD d []
 | [], acc, h => .inl h
 | d :: r, acc, h => by
  simp only [c9D] at h
  rcases c0C h with h | ⟨d', h1, h2⟩
  ·rcases b2k h with h | h
   ·rcases b2k h with h | h
    ·exact .inl h
    ·exact .inr ⟨d, by simp, .inl (by simpa using h)⟩
   ·exact .inr ⟨d, by simp, .inr h⟩
  ·exact .inr ⟨d', by simp [h1], h2⟩
theorem a5m {L : Nat → Prop} {all : List Oper} (hcl : ∀ i o, all[i]? = some o → L i → ∀ d ∈ a6Z o, L d) : ∀ {ops pre : List Oper} {tab : List (List Nat)}, all = pre ++ ops → tab.length = pre.length →
  (∀ i o, i < tab.length → all[i]? = some o → (∀ d ∈ a6Z o, L d) → ∀ x ∈ tab.getD i [], L x) →
  ∀ i o, all[i]? = some o → (∀ d ∈ a6Z o, L d) → ∀ x ∈ (a7a ops tab).getD i [], L x
 | [], pre, tab, he, hl, h, i, o, ho, hd => by
  have hlt := (f55.1 ho).1
  exact h i o (by rw [he] at hlt; simp at hlt; omega) ho hd
 | o' :: r, pre, tab, he, hl, h, i, o, ho, hd => by
  simp only [a7a]
  refine a5m hcl (pre := pre ++ [o']) (by rw [he]; simp) (by simp [hl]) ?_ i o ho hd
  intro j oj hj hoj hdj x hx
  by_cases hjl : j < tab.length
  ·rw [f51, List.getElem?_append_left hjl, ← f51] at hx
   exact h j oj hjl hoj hdj x hx
  ·have hje : j = tab.length := by simp at hj; omega
   subst hje
   rw [f51, List.getElem?_append_right (Nat.le_refl _)] at hx
   simp only [Nat.sub_self, List.getElem?_cons_zero, Option.getD_some] at hx
   have hoe : oj = o' := by
    rw [he, hl] at hoj
    rw [List.getElem?_append_right (Nat.le_refl _)] at hoj
    simpa using hoj.symm
   subst hoe
   rcases c0C hx with hx | ⟨d, h1, h2⟩
   ·simp at hx
   ·rcases h2 with rfl | h2
    ·exact hdj _ h1
    ·by_cases hdl : d < tab.length
     ·obtain ⟨od, hod⟩ : ∃ od, all[d]? = some od := by
       have : d < all.length := by rw [he]; simp; omega
       exact ⟨_, f58 this⟩
      exact h d od hdl hod (hcl d od hod (hdj d h1)) x h2
     ·rw [f51, List.getElem?_eq_none (by omega)] at h2
      simp at h2
theorem a2v {o : Oper} : ∀ {l : List Nat}, a3V P kb o l = true → ∀ k ∈ l, a0I P kb o k = false
 | [], _, k, hk => by simp at hk
 | x :: r, h, k, hk => by
  simp only [a3V, f5U, Bool.not_eq_true'] at h
  rcases f59.1 hk with rfl | hk
  ·exact h.1
  ·exact a2v h.2 k hk
theorem c5f : ∀ {l l' : List Nat}, e0t l l' = true → ∀ k ∈ l, k ∉ l'
 | [], _, _, k, hk => by simp at hk
 | x :: r, l', h, k, hk => by
  simp only [e0t, f5U, Bool.not_eq_true'] at h
  rcases f59.1 hk with rfl | hk
  ·intro hm; rw [a1J.2 hm] at h; cases h.1
  ·exact c5f h.2 k hk
theorem c5g {o : Oper} : ∀ {l : AL Obj}, b6f P kb o l = true → ∀ k ob, get l k = some ob → ∀ k' ∈ a1A ob, a0I P kb o k' = false
 | l, h, k, ob, hg => by
  have hm := a5O hg
  clear hg
  induction l with
  | nil => simp at hm
  | cons x r ih =>
   obtain ⟨j, o'⟩ := x
   simp only [b6f, f5U] at h
   rcases f59.1 hm with hm | hm
   ·simp only [f6a] at hm
    rw [hm.2]
    exact a2v h.1
   ·exact ih h.2 hm
theorem b1C : ∀ {l : AL Obj}, a7K l = true → ∀ k ob, get l k = some ob → c4x ob = true
 | l, h, k, ob, hg => by
  have hm := a5O hg
  clear hg
  induction l with
  | nil => simp at hm
  | cons x r ih =>
   obtain ⟨j, o'⟩ := x
   simp only [a7K, f5U] at h
   rcases f59.1 hm with hm | hm
   ·simp only [f6a] at hm
    rw [hm.2]
    exact h.1
   ·exact ih h.2 hm
theorem a86 : ∀ {l : List Rec}, b6g l = true → ∀ (i : Nat) (p : Rec), l[i]? = some p → a7K p.out.mem = true
 | [], _, i, p, hp => by simp at hp
 | x :: r, h, i, p, hp => by
  simp only [b6g, f5U] at h
  cases i with
  | zero => simp only [List.getElem?_cons_zero, f5S] at hp; subst hp; exact h.1
  | succ i => exact a86 h.2 i p (by simpa using hp)
theorem b5l {o : Oper} {k : Nat} (h : a0I P kb o k = true) : a2p P o = false ∧ c1I kb o ≤ k ∧ k < c1J kb o := by
 unfold a0I at h
 cases hv : a2p P o with
 | true => rw [hv] at h; cases h
 | false =>
  rw [hv, cond_false rfl] at h
  refine ⟨rfl, ?_⟩
  unfold c1I c1J
  cases he : a07 o with
  | true =>
   rw [he, cond_true rfl, f5U] at h
   simp only [cond_true]
   exact ⟨f54 h.1, f54 h.2⟩
  | false =>
   rw [he, cond_false rfl] at h
   simp only [cond_false]
   cases hd : o.dst with
   | none => rw [hd] at h; cases h
   | some d =>
    rw [hd] at h
    have := f5T h
    exact ⟨by show kb + d ≤ k; omega, by show k < kb + d + 1; omega⟩
theorem a64 {p q : Oper} (h : a3I P kb p q = true) : ∀ k, a0I P kb p k = true → a0I P kb q k = false := by
 intro k hp
 cases hq : a0I P kb q k with
 | false => rfl
 | true =>
  obtain ⟨p1, p2, p3⟩ := b5l hp
  obtain ⟨q1, q2, q3⟩ := b5l hq
  unfold a3I at h
  rw [p1, q1] at h
  simp only [Bool.false_or, Bool.or_eq_true] at h
  rcases h with h | h
  ·have := f54 h; omega
  ·have := f54 h; omega
theorem b4q {d : Option Nat} {ts : List Nat} (h : c4A d ts = true) : ∀ x, d = some x → x ∉ ts := by
 intro x hx hm
 subst hx
 simp only [c4A, a1J.2 hm] at h
 cases h
theorem b5m {p : Rec} {q : Oper} (h : a2N P kb p q = true) : (∀ k ∈ p.ks, a0I P kb q k = false) ∧
  (∀ d x, p.o.dst = some d → get p.out.tmps d = some x → ∀ k ∈ a7J (b9w x), a0I P kb q k = false) ∧ (a2p P p.o = false → ∀ k ob, get p.out.mem k = some ob → ∀ k' ∈ a1A ob, a0I P kb q k' = false) := by
 unfold a2N at h
 cases hv : a2p P q with
 | true => exact ⟨fun k _ => a7k hv k, fun _ _ _ _ k _ => a7k hv k, fun _ _ _ _ k _ => a7k hv k⟩
 | false =>
  rw [hv, cond_false rfl] at h
  simp only [f5U] at h
  obtain ⟨⟨h1, h2⟩, h3⟩ := h
  refine ⟨a2v h1, fun d x hd hx => ?_, fun hp k ob hg => ?_⟩
  ·rw [hd] at h2
   simp only [hx] at h2
   exact a2v h2
  ·rw [hp, cond_false rfl] at h3
   exact c5g h3 k ob hg
theorem a5n {p q : Rec} (h1 : a3I P kb p.o q.o = true) (h2 : b7P ops p.o q.o = true) (h3 : b0T P kb p q = true) (h4 : a2N P kb p q.o = true) : c17 P kb ops p.o q.o p.ks q.ks := by
 unfold b7P at h2
 simp only [f5U] at h2
 refine ⟨b4q h2.1.1, b4q h2.1.2, fun d hp hq => b4q h2.2 d hp (by rw [hq]; simp), ?_, (b5m h4).1, ?_, a64 h1⟩
 ·unfold b0T at h3
  cases hv : a2p P p.o && a2p P q.o with
  | true => exact .inl (by simpa using hv)
  | false =>
   rw [hv, cond_false rfl] at h3
   simp only [f5U] at h3
   exact .inr (c5f h3.1.1)
 ·unfold b0T at h3
  cases hv : a2p P p.o && a2p P q.o with
  | true => exact fun k _ => a7k (by simp at hv; exact hv.1) k
  | false =>
   rw [hv, cond_false rfl] at h3
   simp only [f5U] at h3
   exact a2v h3.1.2
end
end Go.AM

namespace Go.AM
open Go

section
variable {P : Program} {N n0 kb : Nat} {F : Nat → Prop} {B M0 : a0Q} {w0 : World} {e0 : b0H} {env : Env} {st : St} {a : Act} {w : World}
theorem Rel.eq (h : Rel P N n0 B M0 w0 F e0 env st a w) {st' : St} (he : c5e st st') : Rel P N n0 B M0 w0 F e0 env st' a w :=
 h.weaken (fun t x hx => by rw [he.1]; exact hx) (fun k ob hg => by rw [he.2]; exact hg)

theorem a9U {S : a0Q} {w' : World} {S' : a0Q} (hk : a0O w S w' S') {q : Nat → Bool} {c : C} {v : Value} (h : a0x P env S w c v) : a0x P env S' w' (e0g q c) v := by
 unfold e0g
 cases (a2j c).any q with
 | true => trivial
 | false => exact a0x.mono hk (fun _ _ => rfl) h
theorem e0J {S : a0Q} {w' : World} {S' : a0Q} (hk : a0O w S w' S') {q : Nat → Bool} {x : V} {v : Value} (h : a7c P env S w x v) : a7c P env S' w' (e9m q x) v := by
 cases x with
 | c c => exact a9U hk h
 | g xs => obtain ⟨vs, h1, h2⟩ := h; exact ⟨vs, h1, h2.mapl fun c u _ hcu => a9U hk hcu⟩
 | _ => exact h.elim
theorem e0K {S : a0Q} {w' : World} {S' : a0Q} (hk : a0O w S w' S') {q : Nat → Bool} {x : V} {v : Value} (h : a0w P env S w a x v) : a0w P env S' w' a (e5v q x) v := by
 cases x with
 | c c => exact a9U hk h
 | g xs => obtain ⟨vs, h1, h2⟩ := h; exact ⟨vs, h1, h2.mapl fun c u _ hcu => a9U hk hcu⟩
 | t xs => obtain ⟨vs, h1, h2⟩ := h; exact ⟨vs, h1, h2.mapl fun c u _ hcu => e0J hk hcu⟩
 | w s b x => trivial
theorem e0L {q : Nat → Bool} {s : a3R} {o : Obj} {b x : Nat} : a47 P s (d4b q o) b x ↔ a47 P s o b x := by
 cases o <;> simp [d4b, a47]
theorem c5h {q : Nat → Bool} {o : Obj} : a08 (d4b q o) ↔ a08 o := by cases o <;> simp [d4b, a08]
theorem a5B {q : Nat → Bool} {k : Nat} {ob : Obj} (h : get (a7b q st).mem k = some ob) : q k = false ∧ ∃ ob0, get st.mem k = some ob0 ∧ ob = d4b q ob0 := by
 unfold a7b at h
 simp only [a1x, b8s] at h
 cases hq : q k with
 | true => rw [hq] at h; simp at h
 | false =>
  rw [hq] at h
  cases hg : get st.mem k with
  | none => rw [hg] at h; simp at h
  | some ob0 => rw [hg] at h; simp at h; exact ⟨rfl, ob0, rfl, h.symm⟩
theorem c5i (h : Rel P N n0 B M0 w0 F e0 env st a w) (q : Nat → Bool) (d : Nat) : Rel P N n0 B M0 w0 F e0 env (a7b q st) a { w with drawn := d } := by
 have hch : Chg (fun _ _ => False) w { w with drawn := d } := ⟨rfl, rfl, rfl, Nat.le_refl _, fun b cur T fr hb => ⟨cur, fr, hb, rfl, fun _ _ => rfl, .inl rfl⟩, fun b ob hb _ => hb⟩
 refine Rel.step (tmps' := (a7b q st).tmps) (mem' := (a7b q st).mem) h (fun _ _ => False) hch (fun _ _ hf => hf.elim) ?_ ?_ ?_ ?_ ?_ (fun _ _ => rfl)
 ·intro k ob b x hg hm
  obtain ⟨_, ob0, h1, rfl⟩ := a5B hg
  exact .inr ⟨k, ob0, h1, e0L.1 hm⟩
 ·intro hkeep t x hx
  unfold a7b at hx
  simp only [a1x] at hx
  cases hg : get st.tmps t with
  | none => rw [hg] at hx; cases hx
  | some y =>
   rw [hg] at hx
   simp only [f6b, f5S] at hx
   subst hx
   exact e0K hkeep (h.tm t y hg)
 ·intro hkeep k ob hg
  obtain ⟨_, ob0, h1, rfl⟩ := a5B hg
  have ho := h.ob k ob0 h1
  cases ob0 with
  | box cs =>
   obtain ⟨cur, T, c1, c2, c3, c4⟩ := ho
   refine ⟨cur, T, c1, by simpa using c2, ?_, a5i (fun c hc => c9F hc) c4⟩
   simp only [List.length_map]
   exact c3.mapl fun x y _ hxy => a9U hkeep hxy
  | row e ex nl xs => exact a5j (w' := { w with drawn := d }) hkeep (fun _ => rfl) ho ex
  | map kt vt es => exact a9M (w' := { w with drawn := d }) hkeep rfl ho
  | tab kt vt es => exact c7p (w' := { w with drawn := d }) hkeep (fun x v _ hx => a9U hkeep hx) rfl ho
  | dat T d' => exact a9N (w' := { w with drawn := d }) hkeep rfl ho
 ·intro k k' o o' hg hg' hr hr' hne
  obtain ⟨_, ob0, h1, rfl⟩ := a5B hg
  obtain ⟨_, ob0', h1', rfl⟩ := a5B hg'
  exact h.ds k k' ob0 ob0' h1 h1' (c5h.1 hr) (c5h.1 hr') hne
 ·intro key e ex xs hg x hx
  obtain ⟨_, ob0, h1, h2⟩ := a5B hg
  cases ob0 with
  | row e' ex' nl' xs' =>
   simp only [d4b, Obj.row.injEq] at h2
   obtain ⟨rfl, rfl, rfl, rfl⟩ := h2
   exact h.pr key e ex xs h1 x hx
  | box cs => cases h2
  | map kt vt es => cases h2
  | tab kt vt es => cases h2
  | dat T d => cases h2
theorem a7m {q : Nat → Bool} {c : C} : ∀ k ∈ a2j (e0g q c), q k = false := by
 intro k hk
 unfold e0g at hk
 cases hq : (a2j c).any q with
 | true => rw [hq] at hk; simp [a2j] at hk
 | false =>
  rw [hq] at hk
  rw [List.any_eq_false] at hq
  simpa using hq k hk
theorem d47 {q : Nat → Bool} {x : V} : ∀ k ∈ a9H (e9m q x), q k = false := by
 intro k hk
 cases x with
 | c c => exact a7m k hk
 | g xs =>
  simp only [e9m, a9H, List.mem_flatMap, List.mem_map] at hk
  obtain ⟨c, ⟨c0, _, rfl⟩, h⟩ := hk
  exact a7m k h
 | _ => simp [e9m, a9H, a2j] at hk
theorem d48 {q : Nat → Bool} {x : V} : ∀ k ∈ a7J (e5v q x), q k = false := by
 intro k hk
 cases x with
 | c c => exact a7m k hk
 | g xs =>
  simp only [e5v, a7J, List.mem_flatMap, List.mem_map] at hk
  obtain ⟨c, ⟨c0, _, rfl⟩, h⟩ := hk
  exact a7m k h
 | t xs =>
  simp only [e5v, a7J, List.mem_flatMap, List.mem_map] at hk
  obtain ⟨c, ⟨c0, _, rfl⟩, h⟩ := hk
  exact d47 k h
 | w s b x => simp [e5v, a7J, a2j] at hk
theorem c5j (q : Nat → Bool) : NoW (a7b q st) := by
 intro t x hx s b y he
 unfold a7b at hx
 simp only [a1x] at hx
 cases hg : get st.tmps t with
 | none => rw [hg] at hx; cases hx
 | some z =>
  rw [hg] at hx
  simp only [f6b, f5S] at hx
  subst he
  cases z <;> simp [e5v] at hx
theorem b5n {q : Nat → Bool} {o : Oper} (hq : ∀ k, q k = false → a0I P kb o k = false) : b5i P kb o (a7b q st) := by
 refine ⟨fun t x hx k hk => ?_, fun k ob hg => ?_⟩
 ·unfold a7b at hx
  simp only [a1x] at hx
  cases hg : get st.tmps t with
  | none => rw [hg] at hx; cases hx
  | some z =>
   rw [hg] at hx
   simp only [f6b, f5S] at hx
   subst hx
   exact hq k (d48 k hk)
 ·obtain ⟨h1, ob0, _, rfl⟩ := a5B hg
  refine ⟨hq k h1, fun k' hk' => ?_⟩
  cases ob0 with
  | box cs =>
   simp only [d4b, a1A, List.mem_flatMap, List.mem_map] at hk'
   obtain ⟨c, ⟨c0, _, rfl⟩, h⟩ := hk'
   exact hq k' (a7m k' h)
  | row => simp [d4b, a1A] at hk'
  | map => simp [d4b, a1A] at hk'
  | tab =>
   simp only [d4b, a1A, List.mem_flatMap, List.mem_map] at hk'
   obtain ⟨c, ⟨c0, _, rfl⟩, h⟩ := hk'
   exact hq k' (a7m k' h)
  | dat => simp [d4b, a1A] at hk'
theorem b5o {ops : List Oper} {k : Nat} (h : a9J P kb ops k = false) : ∀ o ∈ ops, a0I P kb o k = false := by
 induction ops with
 | nil => intro o ho; simp at ho
 | cons x r ih =>
  simp only [a9J, Bool.or_eq_false_iff] at h
  intro o ho
  rcases f59.1 ho with rfl | ho
  ·exact h.1
  ·exact ih h.2 o ho

theorem b8w {R : Type} {cl : a0f} {ops : List Oper} {gs : List Nat} {r : R} : ∀ {l : List Oper} {st : St} {recs : List Rec} {k : St → List Rec → Option R}, a7I P cl kb ops gs l st recs k = some r →
  ∃ rl stF, rl.length = l.length ∧ k stF (recs ++ rl) = some r ∧ ∀ (pre : List Oper) (rc : Nat → Rec), ops = pre ++ l → (∀ (i : Nat) (p : Rec), rl[i]? = some p → rc (pre.length + i) = p) →
   a7l P cl kb ops gs rc ((List.range l.length).map (pre.length + ·)) st stF ∧ ∀ (i : Nat) (p : Rec) (o : Oper), rl[i]? = some p → l[i]? = some o → p.o = o
 | [], st, recs, k, h => ⟨[], st, rfl, by simpa [a7I] using h, fun _ _ _ _ => ⟨c5e.refl _, by simp⟩⟩
 | o :: l, st, recs, k, h => by
  simp only [a7I] at h
  obtain ⟨rec, h1, h2⟩ := c5c h
  obtain ⟨rl, stF, q1, q2, q3⟩ := b8w h2
  refine ⟨rec :: rl, stF, by simp [q1], by simpa using q2, fun pre rc he hrc => ?_⟩
  obtain ⟨q4, q5⟩ := q3 (pre ++ [o]) rc (by rw [he]; simp) (fun i p hp => by
   have := hrc (i + 1) p (by simpa using hp)
   rw [← this]; congr 1; simp; omega)
  have hr0 : rc pre.length = rec := hrc 0 rec (by simp)
  constructor
  ·rw [show (o :: l).length = l.length + 1 from rfl, List.range_succ_eq_map, List.map_cons, List.map_map]
   refine ⟨o, by rw [he]; simp, by rw [Nat.add_zero, hr0]; exact h1, ?_⟩
   rw [Nat.add_zero, hr0]
   have : (List.range l.length).map ((pre.length + ·) ∘ Nat.succ) = (List.range l.length).map ((pre ++ [o]).length + ·) := by
    refine List.map_congr_left fun x _ => ?_
    simp; omega
   rw [this]
   exact q4
  ·intro i p o' hp ho
   cases i with
   | zero => simp at hp ho; subst hp ho; exact h1.op
   | succ i => exact q5 i p o' (by simpa using hp) (by simpa using ho)
theorem a5o {o o' : Oper} {rec : Rec} (ho : rec.o = o) (hnn : a2N P kb rec o' = true) (hff : ∀ k, a0I P kb o k = true → a0I P kb o' k = false) (hc : b5i P kb o' st) : b5i P kb o' (merge P kb o rec.ks st rec.out) := by
 obtain ⟨n1, n2, n3⟩ := b5m hnn
 subst ho
 refine ⟨fun t x hx => ?_, fun k ob hg => ?_⟩
 ·rw [a1T] at hx
  by_cases hd : rec.o.dst = some t
  ·rw [if_pos hd] at hx
   cases hg : get rec.out.tmps t with
   | none => rw [hg] at hx; cases hx
   | some y =>
    rw [hg] at hx
    simp only [f6b, f5S] at hx
    subst hx
    exact n2 t y hd hg
  ·rw [if_neg hd] at hx
   exact hc.1 t x hx
 ·rw [a84] at hg
  split at hg
  ·rename_i hs
   refine ⟨?_, n3 hs.1 k ob hg⟩
   have := hs.2
   unfold c7c at this
   simp only [Bool.or_eq_true, a1J] at this
   rcases this with q | q
   ·exact n1 k q
   ·exact hff k q
  ·exact hc.2 k ob hg
theorem c5k {o : Oper} {ks : List Nat} {out : St} (hn : NoW st) : NoW (merge P kb o ks st out) := by
 intro t x hx s b y he
 rw [a1T] at hx
 by_cases hd : o.dst = some t
 ·rw [if_pos hd] at hx
  cases hg : get out.tmps t with
  | none => rw [hg] at hx; cases hx
  | some z =>
   rw [hg] at hx
   simp only [f6b, f5S] at hx
   subst he
   cases z <;> simp [b9w] at hx
 ·rw [if_neg hd] at hx
  exact hn t x hx s b y he
theorem a7T {d : Nat} : ∀ {l : List Edge}, d ∈ b4b l ↔ ∃ e ∈ l, Region.binds .any e = true ∧ e.on = d
 | [] => by simp [b4b]
 | e :: r => by
  simp only [b4b]
  cases hb : Region.binds .any e with
  | true =>
   simp only [cond_true, f59, a7T (l := r)]
   constructor
   ·rintro (h | ⟨e', h1, h2⟩)
    ·exact ⟨e, .inl rfl, hb, h.symm⟩
    ·exact ⟨e', .inr h1, h2⟩
   ·rintro ⟨e', rfl | h1, h2, h3⟩
    ·exact .inl h3.symm
    ·exact .inr ⟨e', h1, h2, h3⟩
  | false =>
   simp only [cond_false, f59, a7T (l := r)]
   constructor
   ·rintro ⟨e', h1, h2⟩; exact ⟨e', .inr h1, h2⟩
   ·rintro ⟨e', rfl | h1, h2, h3⟩
    ·rw [hb] at h2; cases h2
    ·exact ⟨e', h1, h2, h3⟩
theorem a4N {ops : Array Oper} {listed : Array Bool} {i : Nat} : i ∈ Region.ready .any ops listed ↔ i < ops.size ∧ listed.getD i true = false ∧ ∃ o, ops[i]? = some o ∧ ∀ d ∈ a6Z o, listed.getD d false = true := by
 unfold Region.ready
 simp only [List.mem_filter, List.mem_range, f5U, Bool.not_eq_true']
 constructor
 ·rintro ⟨h1, h2, h3⟩
  refine ⟨h1, h2, ?_⟩
  cases ho : ops[i]? with
  | none => rw [ho] at h3; simp at h3
  | some o =>
   rw [ho] at h3
   simp only [f6b, Option.getD_some, Array.all_eq_true'] at h3
   refine ⟨o, rfl, fun d hd => ?_⟩
   obtain ⟨e, h4, h5, h6⟩ := a7T.1 hd
   have := h3 e (by simpa using h4)
   rw [h5] at this
   simpa [h6] using this
 ·rintro ⟨h1, h2, o, ho, h3⟩
  refine ⟨h1, h2, ?_⟩
  rw [ho]
  simp only [f6b, Option.getD_some, Array.all_eq_true']
  intro e he
  cases hb : Region.binds .any e with
  | false => simp
  | true =>
   have := h3 e.on (a7T.2 ⟨e, by simpa using he, hb, rfl⟩)
   simp [this]
structure f5u (P : Program) (cl : a0f) (kb : Nat) (ops : Array Oper) (gs : List Nat) (rc : Nat → Rec) : Prop where
 topo : d2h 0 ops.toList = true
 op : ∀ (i : Nat) (o : Oper), ops[i]? = some o → (rc i).o = o
 ff : ∀ (i j : Nat) (p q : Oper), i < j → ops[i]? = some p → ops[j]? = some q → a3I P kb p q = true
 nn : ∀ (i j : Nat) (q : Oper), i < j → ops[j]? = some q → a2N P kb (rc i) q = true
 ap : ∀ (i j : Nat) (p q : Oper), i < j → ops[i]? = some p → ops[j]? = some q → i ∈ (a7a ops.toList []).getD j [] ∨ (b7P ops.toList p q = true ∧ b0T P kb (rc i) (rc j) = true)
 full : ∀ (i : Nat), i < ops.size → a7K (rc i).out.mem = true
theorem c7G {R : Type} {cl : a0f} (hcl : a0b P cl) {ops : Array Oper} {gs : List Nat} {rc : Nat → Rec} {k : St → Option R} {r : R} {Q : Exit → Act → World → Prop} {Fe : Fence} {nn : Nat} (hW : a8E Fe) (hdf : Fe = Fence.wide ∨ ∀ o ∈ ops.toList, ∀ c, o.op ≠ .defer c) (hF : ∀ k, F k → k < kb)
  (hd : ∀ o ∈ ops.toList, ∀ d, o.dst = some d → d < N) (hp : f5u P cl kb ops gs rc) {stF : St} (hk : k stF = some r) (hQ : ∀ a w, a1d P N n0 B M0 w0 F e0 k r a w → Q .normal a w) :
  ∀ (fuel : Nat) {rem : List Nat} {listed : Array Bool} {env : Env} {st : St} {a : Act} {w : World}, Rel P N n0 B M0 w0 F e0 env st a w → NoW st → (∀ j ∈ rem, ∀ o, ops[j]? = some o → b5i P kb o st) →
   a7l P cl kb ops.toList gs rc rem st stF → rem.Pairwise (· < ·) → listed.size = ops.size → (∀ i, i ∈ rem ↔ i < ops.size ∧ listed.getD i true = false) →
   (∀ (i : Nat) (o : Oper), ops[i]? = some o → listed.getD i false = true → ∀ d ∈ a6Z o, listed.getD d false = true) → rem.length ≤ fuel → wpAnyIn Fe nn P .any ops Q fuel listed a w := by
 have hend : ∀ {rem : List Nat} {listed : Array Bool}, (∀ i, i ∈ rem ↔ i < ops.size ∧ listed.getD i true = false) → rem.Pairwise (· < ·) → listed.size = ops.size → Region.ready .any ops listed = [] → rem = [] := by
  intro rem listed hrem hpw hsz hready
  cases rem with
  | nil => rfl
  | cons x rr =>
   exfalso
   have hx := (hrem x).1 (by simp)
   have hox : ops[x]? = some ops[x] := Array.getElem?_eq_getElem hx.1
   have : x ∈ Region.ready .any ops listed := by
    refine a4N.2 ⟨hx.1, hx.2, _, hox, fun d hdd => ?_⟩
    have hlt := a85 hp.topo x ops[x] (by simpa using hox) d hdd
    rw [Nat.zero_add] at hlt
    have hnm : d ∉ x :: rr := by
     intro hm
     rcases f59.1 hm with rfl | hm
     ·omega
     ·have := (List.pairwise_cons.1 hpw).1 d hm; omega
    have hds : d < listed.size := by omega
    cases hl : listed[d] with
    | true => simp [f56, Array.getElem?_eq_getElem hds, hl]
    | false => exact absurd ((hrem d).2 ⟨by omega, by simp [f56, Array.getElem?_eq_getElem hds, hl]⟩) hnm
   rw [hready] at this
   simp at this
 intro fuel
 induction fuel with
 | zero =>
  intro rem listed env st a w h hn hc hrun hpw hsz hrem hclosed hlen
  have hnil : rem = [] := List.eq_nil_of_length_eq_zero (by omega)
  subst hnil
  refine ⟨?_, hQ a w ⟨env, stF, h.eq hrun, hk⟩⟩
  cases hr : Region.ready .any ops listed with
  | nil => rfl
  | cons i l =>
   have : i ∈ Region.ready .any ops listed := by rw [hr]; simp
   obtain ⟨h1, h2, _⟩ := a4N.1 this
   have := (hrem i).2 ⟨h1, h2⟩
   simp at this
 | succ fuel ih =>
  intro rem listed env st a w h hn hc hrun hpw hsz hrem hclosed hlen
  refine ⟨fun hready => ?_, fun i hi => ?_⟩
  ·have := hend hrem hpw hsz hready
   subst this
   exact hQ a w ⟨env, stF, h.eq hrun, hk⟩
  ·obtain ⟨hi1, hi2, o, ho, hdir⟩ := a4N.1 hi
   have hirem := (hrem i).2 ⟨hi1, hi2⟩
   obtain ⟨A, Bl, hsplit⟩ := List.append_of_mem hirem
   subst hsplit
   obtain ⟨hpA, hpB, hpAB⟩ := List.pairwise_append.1 hpw
   have hanc := a5m (L := fun x => listed.getD x false = true) (all := ops.toList) (fun j oj hj hl => hclosed j oj (by simpa using hj) hl) (ops := ops.toList) (pre := []) (tab := []) rfl rfl (fun _ _ hlt => by simp at hlt) i o (by simpa using ho) hdir
   have hnl : ∀ x ∈ A, ¬ listed.getD x false = true := by
    intro x hx hl
    have := ((hrem x).1 (by simp [hx])).2
    have hxs : x < listed.size := by rw [hsz]; exact ((hrem x).1 (by simp [hx])).1
    simp only [f56, Array.getElem?_eq_getElem hxs, Option.getD_some] at this hl
    rw [this] at hl; cases hl
   have hapA : ∀ x ∈ A, c18 P kb ops.toList rc x i := by
    intro x hx p q hpx hqi
    have hxi : x < i := hpAB x hx i (by simp)
    have hpx' : ops[x]? = some p := by simpa using hpx
    have hqi' : ops[i]? = some q := by simpa using hqi
    have e1 := hp.op x p hpx'
    have e2 := hp.op i q hqi'
    rcases hp.ap x i p q hxi hpx' hqi' with h1 | ⟨h1, h2⟩
    ·exact absurd (hanc x h1) (hnl x hx)
    ·have := a5n (p := rc x) (q := rc i) (by rw [e1, e2]; exact hp.ff x i p q hxi hpx' hqi') (by rw [e1, e2]; exact h1) h2 (by rw [e2]; exact hp.nn x i q hxi hqi')
     rw [e1, e2] at this
     exact this
   have hrun' := hrun.front hapA
   obtain ⟨o', ho', hrec, hrest⟩ := hrun'
   have hoo : o' = o := by
    have : ops[i]? = some o' := by simpa using ho'
    rw [ho] at this
    exact (Option.some.inj this).symm
   subst hoo
   have hilt : i < listed.size := by rw [hsz]; exact hi1
   have hget : ∀ x dflt, (listed.setIfInBounds i true).getD x dflt = if x = i then true else listed.getD x dflt := by
    intro x dflt
    simp only [f56, Array.getElem?_setIfInBounds]
    by_cases hx : x = i
    ·subst hx; simp [hilt]
    ·rw [if_neg (Ne.symm hx), if_neg hx]
   have next : ∀ env' a' w', Rel P N n0 B M0 w0 F e0 env' (merge P kb o' (rc i).ks st (rc i).out) a' w' → wpAnyIn Fe nn P .any ops Q fuel (listed.setIfInBounds i true) a' w' := by
    intro env' a' w' h'
    refine ih (rem := A ++ Bl) h' (c5k hn) ?_ hrest ?_ (by simpa using hsz) ?_ ?_ (by simp at hlen ⊢; omega)
    ·intro j hj oj hoj
     have hjr : j ∈ A ++ i :: Bl := by
      rcases List.mem_append.1 hj with hj | hj
      ·simp [hj]
      ·simp [hj]
     have hcj := hc j hjr oj hoj
     rcases List.mem_append.1 hj with hj | hj
     ·have hji : j < i := hpAB j hj i (by simp)
      have hap := hapA j hj oj o' (by simpa using hoj) ho'
      have hapk : a2N P kb (rc i) oj = true := by
       rcases hp.ap j i oj o' hji hoj ho with h1 | ⟨_, h2⟩
       ·exact absurd (hanc j h1) (hnl j hj)
       ·unfold b0T at h2
        cases hv : a2p P (rc j).o && a2p P (rc i).o with
        | true =>
         rw [hp.op j oj hoj] at hv
         simp only [f5U] at hv
         unfold a2N
         rw [hv.1]
         rfl
        | false =>
         rw [hv, cond_false rfl] at h2
         simp only [f5U] at h2
         rw [← hp.op j oj hoj]
         exact h2.2
      exact a5o (hp.op i o' ho) hapk hap.symm.ff hcj
     ·have hij : i < j := (List.pairwise_cons.1 hpB).1 j hj
      exact a5o (hp.op i o' ho) (hp.nn i j oj hij hoj) (a64 (hp.ff i j o' oj hij ho hoj)) hcj
    ·refine List.pairwise_append.2 ⟨hpA, (List.pairwise_cons.1 hpB).2, fun x hx y hy => hpAB x hx y (by simp [hy])⟩
    ·intro x
     rw [hget]
     have hx := hrem x
     constructor
     ·intro hm
      have hxi : x ≠ i := by
       rintro rfl
       rcases List.mem_append.1 hm with hm | hm
       ·have := hpAB x hm x (by simp); omega
       ·have := (List.pairwise_cons.1 hpB).1 x hm; omega
      rw [if_neg hxi]
      refine hx.1 ?_
      rcases List.mem_append.1 hm with hm | hm <;> simp [hm]
     ·rintro ⟨h1, h2⟩
      by_cases hxi : x = i
      ·rw [if_pos hxi] at h2; cases h2
      ·rw [if_neg hxi] at h2
       have := hx.2 ⟨h1, h2⟩
       simp only [List.mem_append, f59] at this ⊢
       rcases this with h3 | h3 | h3
       ·exact .inl h3
       ·exact absurd h3 hxi
       ·exact .inr h3
    ·intro x ox hox hl d hdd
     rw [hget] at hl ⊢
     by_cases hdi : d = i
     ·rw [if_pos hdi]
     ·rw [if_neg hdi]
      by_cases hxi : x = i
      ·subst hxi
       rw [ho] at hox
       cases hox
       exact hdir d hdd
      ·rw [if_neg hxi] at hl
       exact hclosed x ox hox hl d hdd
   have hs := c0B (Q := Q) hcl (K := wpAnyIn Fe nn P .any ops Q fuel (listed.setIfInBounds i true)) (fun k hk => by
    cases hb : a0I P kb o' k with
    | false => rfl
    | true =>
     have h1 := b8p hb
     have h2 := hF k hk
     omega) h hn (hc i (by simp) o' ho) (hd o' (by
      have := Array.mem_of_getElem? ho
      simpa using this)) hrec (b1C (hp.full i hi1)) next
   unfold wpOpIn
   rw [ho]
   simp only
   split
   ·rename_i hw
    rw [if_pos hw] at hs
    exact b8q hW (hdf.imp id fun q => q o' (by have := Array.mem_of_getElem? ho; simpa using this)) hs
   ·rename_i hw
    rw [if_neg hw] at hs
    exact ⟨fun f _ => hW.fn f, hs⟩
theorem a87 {cl : a0f} (hm : P.follows .mixedOrders = true) (hcl : a0b P cl) : a1W P cl := by
 intro R N n0 kb F B M0 w0 e0 env st a w id ops k r Q Fe nn hW hdf hF h hd hk hQ
 unfold c7i at hk
 cases hs : a9I P kb ops.toList with
 | false => rw [hs] at hk; cases hk
 | true =>
  rw [hs, cond_true rfl] at hk
  obtain ⟨rl, stF, q1, q2, q3⟩ := b8w hk
  rw [List.nil_append] at q2
  cases hdy : d2i P kb ops.toList rl with
  | false => rw [hdy] at q2; cases q2
  | true =>
   rw [hdy, cond_true rfl] at q2
   let rc : Nat → Rec := fun i => rl.getD i ⟨default, [], ⟨[], []⟩⟩
   have hrc : ∀ (i : Nat) (p : Rec), rl[i]? = some p → rc i = p := by
    intro i p hp
    show rl.getD i _ = p
    rw [f51, hp]
    rfl
   obtain ⟨q4, q5⟩ := q3 [] rc rfl (fun i p hp => by simpa using hrc i p hp)
   have hl : ∀ (i : Nat), i < ops.size → rl[i]? = some (rc i) := by
    intro i hi
    have : i < rl.length := by rw [q1]; simpa using hi
    have h1 := f58 this
    rw [h1, hrc i _ h1]
   have hlt : ∀ (i : Nat) (o : Oper), ops[i]? = some o → i < ops.size := fun i o ho => (f53.1 ho).1
   unfold a9I at hs
   simp only [f5U] at hs
   unfold d2i at hdy
   simp only [f5U] at hdy
   have hop : ∀ (i : Nat) (o : Oper), ops[i]? = some o → (rc i).o = o := fun i o ho => q5 i (rc i) o (hl i (hlt i o ho)) (by simpa using ho)
   have hst : ∀ (i j : Nat) (p q : Oper), i < j → ops[i]? = some p → ops[j]? = some q → a3I P kb p q = true ∧ (i ∈ (a7a ops.toList []).getD j [] ∨ b7P ops.toList p q = true) := by
    intro i j p q hij hp hq
    have := a4M hs.2 i j p q hij (by simpa using hp) (by simpa using hq)
    simp only [Nat.zero_add, f5U, Bool.or_eq_true, a1J] at this
    exact this
   have hdn : ∀ (i j : Nat), i < j → j < ops.size → a2N P kb (rc i) (rc j).o = true ∧ (i ∈ (a7a ops.toList []).getD j [] ∨ b0T P kb (rc i) (rc j) = true) := by
    intro i j hij hj
    have := a4M hdy.1 i j (rc i) (rc j) hij (hl i (by omega)) (hl j hj)
    simp only [Nat.zero_add, f5U, Bool.or_eq_true, a1J] at this
    exact this
   have hplan : f5u P cl kb ops (a5x ops.toList ops.toList) rc := by
    refine ⟨hs.1, hop, fun i j p q hij hp hq => (hst i j p q hij hp hq).1, ?_, ?_, fun i hi => a86 hdy.2 i (rc i) (hl i hi)⟩
    ·intro i j q hij hq
     have := (hdn i j hij (hlt j q hq)).1
     rw [hop j q hq] at this
     exact this
    ·intro i j p q hij hp hq
     rcases (hst i j p q hij hp hq).2 with h1 | h1
     ·exact .inl h1
     ·exact (hdn i j hij (hlt j q hq)).2.imp (fun h => h) fun h2 => ⟨h1, h2⟩
   refine wpIn_region_any hm ?_
   have hrange : (List.range ops.toList.length).map (([] : List Oper).length + ·) = List.range ops.size := by simp
   rw [hrange] at q4
   refine c7G hcl hW hdf hF hd hplan q2 hQ ops.size (rem := List.range ops.size) (c5i h _ _) (c5j _) ?_ q4 List.pairwise_lt_range (by simp) ?_ ?_ (by simp)
   ·intro j _ o ho
    refine b5n fun k hk => b5o hk o ?_
    have := Array.mem_of_getElem? ho
    simpa using this
   ·intro i
    simp only [List.mem_range, f56]
    constructor
    ·intro hi; exact ⟨hi, by simp [hi]⟩
    ·exact fun hi => hi.1
   ·intro i o ho hl' 
    have hi := hlt i o ho
    simp [f56, hi] at hl'
end
end Go.AM

namespace Go.AM
open Go

def bnd {A B : Type} (a : A) (f : A → B) : B := f a
theorem a0K {A B R : Type} {e : A} {f : A → R} {k : B → R} {g : A → B} (h : ∀ x, f x = k (g x)) : bnd e f = k (bnd e g) := h e
theorem a0k {A R : Type} {c : Bool} {x y : Option R} {a b : Option A} {K : A → Option R} (hx : x = a.bind K) (hy : y = b.bind K) : (bif c then x else y) = (bif c then a else b).bind K := by cases c <;> assumption
theorem a0y {E A R : Type} {e : E} {f : E → Option R} {g : E → Option A} {K : A → Option R} (h : ∀ z, f z = (g z).bind K) : bnd e f = (bnd e g).bind K := h e
theorem a0q {A R : Type} {c : Bool} {x y : R} {k : A → R} {a b : A} (hx : x = k a) (hy : y = k b) : (bif c then x else y) = k (bif c then a else b) := by cases c <;> assumption

theorem d2H : ∀ {c b b' : Code}, b ∈ a05 c → b' ∈ a05 b → b' ∈ a05 c := by
 intro c
 induction c with
 | seq x y ihx ihy =>
  intro b b' h h'
  simp only [a05, List.mem_append] at h
  rcases h with h | h
  ·have : b = .seq x y := by
    unfold d44 at h
    split at h
    ·simpa using h
    ·simpa using h
    ·cases h
   rw [← this]; exact h'
  ·simp only [a05, List.mem_append]
   exact .inr (h.imp (fun h => ihx h h') (fun h => ihy h h'))
 | cond o x y ihx ihy =>
  intro b b' h h'
  simp only [a05, f59, List.mem_append] at h
  rcases h with rfl | h
  ·exact h'
  ·simp only [a05, f59, List.mem_append]
   exact .inr (h.imp (fun h => ihx h h') (fun h => ihy h h'))
 | block id x ih => intro b b' h h'; simp only [a05] at h ⊢; exact ih h h'
 | loop x ih =>
  intro b b' h h'
  simp only [a05, f59] at h
  rcases h with rfl | h
  ·exact h'
  ·simp only [a05, f59]; exact .inr (ih h h')
 | region id ops d =>
  intro b b' h h'
  simp only [a05, List.mem_singleton] at h
  subst h
  exact h'
 | rangeFunc g ps x y ihx ihy =>
  intro b b' h h'
  simp only [a05, f59, List.mem_append] at h
  rcases h with rfl | h
  ·exact h'
  ·simp only [a05, f59, List.mem_append]
   exact .inr (h.imp (fun h => ihx h h') (fun h => ihy h h'))
 | _ => intro b b' h; simp [a05] at h
def c7H (P : Program) (f : FuncId) : List Code :=
 match P.funcs[f]? with
 | some fn => (match fn.body with | some c => a05 c | none => [])
 | none => []
def d2I (id : Nat) (b : Code) : Bool := match d2j b with | some i => Nat.beq i id | none => false
def b5p (id : Nat) : List Code → List Code
 | [] => []
 | b :: r => bif d2I id b then b :: b5p id r else b5p id r
def a2V (P : Program) (f : FuncId) (id : Nat) : Code := match b5p id (c7H P f) with | b :: _ => b | [] => .skip
def c90 (P : Program) (f : FuncId) (id : Nat) : Bool := match b5p id (c7H P f) with | [_] => true | _ => false
theorem b4r {id : Nat} {b : Code} : ∀ {l : List Code}, b ∈ l → d2I id b = true → b ∈ b5p id l
 | x :: l, h, hi => by
  simp only [b5p]
  rcases f59.1 h with rfl | h
  ·rw [hi]; simp
  ·cases d2I id x with
   | true => simp [b4r h hi]
   | false => simpa using b4r h hi
theorem b4s {id : Nat} {b : Code} : ∀ {l : List Code}, b ∈ b5p id l → b ∈ l
 | x :: l, h => by
  simp only [b5p] at h
  cases hx : d2I id x with
  | true =>
   rw [hx] at h
   rcases f59.1 h with rfl | h
   ·simp
   ·simp [b4s h]
  | false => rw [hx] at h; simp [b4s (by simpa using h)]
section
variable {P : Program}
theorem e0M {f : FuncId} {id : Nat} {b : Code} (h1 : c90 P f id = true) (hb : b ∈ c7H P f) (hi : d2I id b = true) : b = a2V P f id := by
 have hm := b4r hb hi
 unfold c90 at h1
 unfold a2V
 split at h1
 ·rename_i x hx
  rw [hx] at hm ⊢
  simpa using hm
 ·cases h1
theorem d49 {f : FuncId} {id : Nat} (h1 : c90 P f id = true) : a2V P f id ∈ c7H P f := by
 unfold c90 at h1
 split at h1
 ·rename_i x hx
  unfold a2V
  rw [hx]
  exact b4s (id := id) (by rw [hx]; simp)
 ·cases h1
def a1o (P : Program) (los : AL (St → Option (List (Bool × (Ex × St))))) (kb : Nat) (f : FuncId) (X : Ctx := e0i) (Fs : a1K := b2h) : Prop := ∀ id g, get los id = some g → c90 P f id = true ∧ a7j P kb (a2V P f id) g X Fs
theorem a1o.nil {X : Ctx} {Fs : a1K} {kb : Nat} {f : FuncId} : a1o P [] kb f X Fs := fun _ _ h => by cases h
theorem a1o.cons {X : Ctx} {Fs : a1K} {los : AL (St → Option (List (Bool × (Ex × St))))} {kb : Nat} {f : FuncId} {id : Nat} {g : St → Option (List (Bool × (Ex × St)))} (h : a1o P los kb f X Fs) (h1 : c90 P f id = true) (hl : a7j P kb (a2V P f id) g X Fs) : a1o P ((id, g) :: los) kb f X Fs := by
 intro i g' hg
 simp only [get, a0v] at hg
 by_cases hi : id = i
 ·subst hi
  simp only [decide_true, cond_true, f5S] at hg
  subst hg
  exact ⟨h1, hl⟩
 ·rw [cond_false (by simpa using hi)] at hg
  exact h i g' hg
theorem a1o.ok {X : Ctx} {Fs : a1K} {hs : b0U} {kb : Nat} {f : FuncId} (h : a1o P hs.los kb f X Fs) : ∀ b ∈ c7H P f, c47 P hs kb b X Fs := by
 intro b hb id g hl
 unfold b7Q at hl
 split at hl
 ·cases hl
 ·rename_i id' hid
  split at hl
  ·rename_i g' hg
   simp only [f5S, f6a] at hl
   obtain ⟨rfl, rfl⟩ := hl
   obtain ⟨h1, h2⟩ := h _ _ hg
   have : b = a2V P f id' := e0M h1 hb (by unfold d2I; rw [hid]; simp)
   rw [this]
   exact h2
  ·cases hl
theorem a1o.loops {X : Ctx} {hs : b0U} {kb : Nat} {f : FuncId} (h : a1o P hs.los kb f X) : c7B P hs kb f X := by
 intro fn c hfn hc b hb
 refine h.ok b ?_
 unfold c7H
 rw [hfn]
 simp only [hc]
 exact hb
theorem a1o.inner {X : Ctx} {Fs : a1K} {hs : b0U} {kb : Nat} {f : FuncId} {id : Nat} (h : a1o P hs.los kb f X Fs) (h1 : c90 P f id = true) : ∀ b' ∈ a05 (a2V P f id), c47 P hs kb b' X Fs := by
 intro b' hb'
 refine h.ok b' ?_
 have hmem := d49 h1
 unfold c7H at hmem ⊢
 split at hmem
 ·split at hmem
  ·exact d2H hmem hb'
  ·simp at hmem
 ·simp at hmem
theorem e9u {X : Ctx} {Fs : a1K} {cl : a0f} {hs' : b0U} {kb : Nat} {f0 : FuncId} {id : Nat} {f : St → Option (List (Bool × (Ex × St)))} (hP : a6B P) (hcl : a0b P cl) (hc : a1o P hs'.los kb f0 X Fs) (h1 : c90 P f0 id = true) (hfs : b1z Fs (a2V P f0 id)) (ts ks : List Nat)
  (h : ∀ st alts, f st = some alts → ∀ x, a5f alts some = some x → ∃ n, a68 P cl hs' kb n (a2V P f0 id) st (fun e st => some (e, a60 ts ks st)) = some x) : a7j P kb (a2V P f0 id) f X Fs :=
 d45 hcl (a87 hP.mixed hcl) hfs (hc.inner h1) ts ks h

theorem a3p {cl : a0f} {hs : b0U} {kb n : Nat} {f : FuncId} {args : List V} {mem : AL Obj} {r : Res} (hP : a6B P) (hcl : a0b P cl) (hlo : a1o P hs.los kb f) (hk : mem.length = kb)
  (h : body P cl hs n f args mem = some r) : a1I P f args mem r := by
 subst hk
 exact (c0z hP hcl (a87 hP.mixed hcl) hlo.loops h).1
def c19 (P : Program) (f : FuncId) : Bool :=
 match P.funcs[f]? with
 | some fn => !fn.body.isNone && !(fn.name == "runtime.NumGoroutine")
 | none => false
theorem enters_of {f : FuncId} (h : c19 P f = true) : a8Y P f := by
 unfold c19 at h
 split at h
 ·rename_i fn hfn
  simp only [f5U, Bool.not_eq_true'] at h
  exact ⟨fn, hfn, h.1, h.2⟩
 ·cases h
def e9v (P : Program) : Bool := P.follows .mixedOrders && P.funcs.toList.all fun fn => match fn.body with
 | some c => okC fn.ntmps c && !(fn.name == "runtime.NumGoroutine")
 | none => true
theorem d5a (h : e9v P = true) : a6B P := by
 unfold e9v at h
 simp only [f5U, List.all_eq_true] at h
 refine ⟨h.1, fun f fn c hfn hc => ?_, fun f fn hfn hb => ?_⟩
 ·have := h.2 fn (by simpa using Array.mem_of_getElem? hfn)
  rw [hc] at this
  simp only [f5U] at this
  exact this.1
 ·have := h.2 fn (by simpa using Array.mem_of_getElem? hfn)
  cases hc : fn.body with
  | none => rw [hc] at hb; cases hb
  | some c =>
   rw [hc] at this
   simp only [f5U, Bool.not_eq_true'] at this
   exact this.2
end
end Go.AM

namespace Go.AM
open Go

inductive Lf where
 | i (n : Int)
 | b (x : Bool)
 | s (x : List UInt8)
 | l (xs : List D)
 | d (x : D)
 | m (es : List (D × D))
 | n (k : Nat)
def e0j : List Lf → Nat → Option Lf
 | [], _ => none
 | x :: _, 0 => some x
 | _ :: r, k + 1 => e0j r k
def li (L : List Lf) (k : Nat) : Int := match e0j L k with | some (.i x) => x | _ => 0
def lb (L : List Lf) (k : Nat) : Bool := match e0j L k with | some (.b x) => x | _ => false
def ls (L : List Lf) (k : Nat) : List UInt8 := match e0j L k with | some (.s x) => x | _ => []
def ll (L : List Lf) (k : Nat) : List D := match e0j L k with | some (.l x) => x | _ => []
def ld (L : List Lf) (k : Nat) : D := match e0j L k with | some (.d x) => x | _ => .i 0
def lm (L : List Lf) (k : Nat) : List (D × D) := match e0j L k with | some (.m x) => x | _ => []
def ln (L : List Lf) (k : Nat) : Nat := match e0j L k with | some (.n x) => x | _ => 0
inductive HC where
 | u
 | i (k : IntKind)
 | b
 | k (x : Bool)
 | s
 | ks (x : List UInt8)
 | sl (e : TypeId)
 | nsl (e : TypeId)
 | ksl (e : TypeId) (es : List D)
 | nils
 | nilf
 | nov
 | p (key off : Nat)
 | el (e : TypeId) (off : Nat)
 | re (key : Nat) (e : TypeId) (off : Nat)
 | pi (key base len esz off : Nat)
 | o (key : Nat)
 | m (key : Nat)
 | bs (key n : Nat)
 | y (key : Nat)
 | ba (key : Nat) (T : TypeId)
 | ifc
 | f (fn : FuncId) (caps : List (Nat × Nat))
def rI : Nat → List HC → List HC
 | 0, l => l
 | n + 1, l => .i .i64 :: rI n l
inductive HV where
 | c (x : HC)
 | g (xs : List HC)
inductive HO where
 | box (cs : List HC)
 | row (e : TypeId) (excl : Bool)
 | map (kt vt : TypeId)
 | kmap (kt vt : TypeId) (es : List (Int × Int))
 | dat (T : TypeId)
structure Sh where
 tmps : AL HV
 mem : AL HO
def c91 : List (Nat × Nat) → List (Nat × Nat) → Bool
 | [], [] => true
 | (a, b) :: r, (c, d) :: s => Nat.beq a c && Nat.beq b d && c91 r s
 | _, _ => false
mutual
def e5E : D → D → Bool
 | .i a, .i b => a == b
 | .b a, .b b => a == b
 | .s a, .s b => a == b
 | .l a xs, .l b ys => a == b && e0N xs ys
 | .a xs, .a ys => e0N xs ys
 | _, _ => false
def e0N : List D → List D → Bool
 | [], [] => true
 | x :: xs, y :: ys => e5E x y && e0N xs ys
 | _, _ => false
end
mutual
theorem e5F : ∀ {x y : D}, e5E x y = true → x = y
 | .i a, y, h => by cases y <;> simp only [e5E] at h <;> first | (rw [eq_of_beq h]) | cases h
 | .b a, y, h => by cases y <;> simp only [e5E] at h <;> first | (rw [eq_of_beq h]) | cases h
 | .s a, y, h => by cases y <;> simp only [e5E] at h <;> first | (rw [eq_of_beq h]) | cases h
 | .l a xs, y, h => by
  cases y <;> simp only [e5E, f5U] at h <;> first | (rw [eq_of_beq h.1, b4t h.2]) | cases h
 | .a xs, y, h => by
  cases y <;> simp only [e5E] at h <;> first | (rw [b4t h]) | cases h
theorem b4t : ∀ {xs ys : List D}, e0N xs ys = true → xs = ys
 | [], ys, h => by cases ys <;> simp only [e0N] at h <;> first | rfl | cases h
 | x :: xs, ys, h => by
  cases ys <;> simp only [e0N, f5U] at h <;> first | (rw [e5F h.1, b4t h.2]) | cases h
end
def e9w : HC → C → Bool
 | .u, .u => true
 | .i k, .i k' _ => k == k'
 | .b, .b _ => true
 | .k x, .k y => x == y
 | .s, .s _ => true
 | .ks x, .s y => x == y
 | .sl e, .sl e' _ _ => Nat.beq e e'
 | .nsl e, .sl e' true [] => Nat.beq e e'
 | .nils, .v (.slice none 0 0) => true
 | .nov, .v v => d4r v
 | .p k o, .p k' o' => Nat.beq k k' && Nat.beq o o'
 | .el e o, .el e' _ o' => Nat.beq e e' && Nat.beq o o'
 | .re k e o, .re k' e' _ o' => Nat.beq k k' && Nat.beq e e' && Nat.beq o o'
 | .pi k b l e o, .pi k' b' l' e' _ o' => Nat.beq k k' && Nat.beq b b' && Nat.beq l l' && Nat.beq e e' && Nat.beq o o'
 | .o k, .o k' => Nat.beq k k'
 | .m k, .m k' => Nat.beq k k'
 | .bs k n, .bs k' n' => Nat.beq k k' && Nat.beq n n'
 | .y k, .y k' => Nat.beq k k'
 | .ba k T, .ba k' T' => Nat.beq k k' && Nat.beq T T'
 | .ifc, .ifc _ => true
 | .f fn caps, .f fn' caps' => Nat.beq fn fn' && c91 caps caps'
 | .ksl e es, .sl e' nl xs => Nat.beq e e' && (!nl) && e0N es xs
 | .nilf, .v .nilFunc => true
 | _, _ => false
def c7I : List HC → List C → Bool
 | [], [] => true
 | x :: xs, y :: ys => e9w x y && c7I xs ys
 | _, _ => false
def f4w : HV → V → Bool
 | .c x, .c y => e9w x y
 | .g xs, .g ys => c7I xs ys
 | _, _ => false
def f4c : List (Int × Int) → List (D × D)
 | [] => []
 | (a, b) :: r => (.i a, .i b) :: f4c r
def a8n : List (Int × Int) → List (D × D) → Bool
 | [], [] => true
 | (a, b) :: r, (.i c, .i d) :: s => (a == c) && (b == d) && a8n r s
 | _, _ => false
theorem c5l : ∀ {es : List (Int × Int)} {l : List (D × D)}, a8n es l = true → f4c es = l
 | [], [], _ => rfl
 | (a, b) :: r, (.i c, .i d) :: s, h => by
  simp only [a8n, f5U] at h
  rw [f4c, eq_of_beq h.1.1, eq_of_beq h.1.2, c5l h.2]
 | [], _ :: _, h => by cases h
 | _ :: _, [], h => by cases h
 | _ :: _, (.b _, _) :: _, h => by simp [a8n] at h
 | _ :: _, (.s _, _) :: _, h => by simp [a8n] at h
 | _ :: _, (.l _ _, _) :: _, h => by simp [a8n] at h
 | _ :: _, (.a _, _) :: _, h => by simp [a8n] at h
 | _ :: _, (.i _, .b _) :: _, h => by simp [a8n] at h
 | _ :: _, (.i _, .s _) :: _, h => by simp [a8n] at h
 | _ :: _, (.i _, .l _ _) :: _, h => by simp [a8n] at h
 | _ :: _, (.i _, .a _) :: _, h => by simp [a8n] at h
def e9b : HO → Obj → Bool
 | .box xs, .box ys => c7I xs ys
 | .row e ex, .row e' ex' _ _ => Nat.beq e e' && (ex == ex')
 | .map kt vt, .map kt' vt' _ => Nat.beq kt kt' && Nat.beq vt vt'
 | .kmap kt vt es, .map kt' vt' es' => Nat.beq kt kt' && Nat.beq vt vt' && a8n es es'
 | .dat T, .dat T' _ => Nat.beq T T'
 | _, _ => false
def d5b {α β : Type} (f : α → β → Bool) : AL α → AL β → Bool
 | [], [] => true
 | (k, x) :: r, (k', y) :: s => Nat.beq k k' && f x y && d5b f r s
 | _, _ => false
def e0O (sh : Sh) (st : St) : Bool := d5b f4w sh.tmps st.tmps && d5b e9b sh.mem st.mem
def lvC : C → List Lf
 | .i _ n => [.i n]
 | .b x => [.b x]
 | .ifc x => [.b x]
 | .s x => [.s x]
 | .sl _ n xs => [.b n, .l xs]
 | .el _ d _ => [.d d]
 | .re _ _ ix _ => [.n ix]
 | .pi _ _ _ _ ix _ => [.n ix]
 | _ => []
def e5G : List C → List Lf
 | [] => []
 | c :: r => lvC c ++ e5G r
def lvV : V → List Lf
 | .c x => lvC x
 | .g xs => e5G xs
 | _ => []
def lvO : Obj → List Lf
 | .box cs => e5G cs
 | .row _ _ n xs => [.b n, .l xs]
 | .map _ _ es => [.m es]
 | .tab _ _ _ => []
 | .dat _ d => [.d d]
def e0P {α : Type} (f : α → List Lf) : AL α → List Lf
 | [] => []
 | (_, x) :: r => f x ++ e0P f r
def f4x (st : St) : List Lf := e0P lvV st.tmps ++ e0P lvO st.mem
def c92 (L : List Lf) (n : Nat) : HC → C × Nat
 | .u => (.u, n)
 | .i k => (.i k (li L n), n + 1)
 | .b => (.b (lb L n), n + 1)
 | .k x => (.k x, n)
 | .s => (.s (ls L n), n + 1)
 | .ks x => (.s x, n + 1)
 | .sl e => (.sl e (lb L n) (ll L (n + 1)), n + 2)
 | .nsl e => (.sl e true [], n + 2)
 | .ksl e es => (.sl e false es, n + 2)
 | .nils => (.v (.slice none 0 0), n)
 | .nilf => (.v .nilFunc, n)
 | .nov => (.v (.tuple #[]), n)
 | .p k o => (.p k o, n)
 | .el e o => (.el e (ld L n) o, n + 1)
 | .re k e o => (.re k e (ln L n) o, n + 1)
 | .pi k b l e o => (.pi k b l e (ln L n) o, n + 1)
 | .o k => (.o k, n)
 | .m k => (.m k, n)
 | .bs k j => (.bs k j, n)
 | .y k => (.y k, n)
 | .ba k T => (.ba k T, n)
 | .ifc => (.ifc (lb L n), n + 1)
 | .f fn caps => (.f fn caps, n)
def c5m (L : List Lf) : Nat → List HC → List C × Nat
 | n, [] => ([], n)
 | n, x :: r => ((c92 L n x).1 :: (c5m L (c92 L n x).2 r).1, (c5m L (c92 L n x).2 r).2)
def e9c (L : List Lf) (n : Nat) : HV → V × Nat
 | .c x => (.c (c92 L n x).1, (c92 L n x).2)
 | .g xs => (.g (c5m L n xs).1, (c5m L n xs).2)
def e34 (L : List Lf) (n : Nat) : HO → Obj × Nat
 | .box xs => (.box (c5m L n xs).1, (c5m L n xs).2)
 | .row e ex => (.row e ex (lb L n) (ll L (n + 1)), n + 2)
 | .map kt vt => (.map kt vt (lm L n), n + 1)
 | .kmap kt vt es => (.map kt vt (f4c es), n + 1)
 | .dat T => (.dat T (ld L n), n + 1)
def c7J {α β : Type} (f : Nat → α → β × Nat) : Nat → AL α → AL β × Nat
 | n, [] => ([], n)
 | n, (k, x) :: r => ((k, (f n x).1) :: (c7J f (f n x).2 r).1, (c7J f (f n x).2 r).2)
def a0p (sh : Sh) (L : List Lf) : St :=
 { tmps := (c7J (e9c L) 0 sh.tmps).1, mem := (c7J (e34 L) (c7J (e9c L) 0 sh.tmps).2 sh.mem).1 }
theorem a4t : ∀ (pre : List Lf) (x : Lf) (post : List Lf), e0j (pre ++ x :: post) pre.length = some x
 | [], _, _ => rfl
 | _ :: r, x, post => a4t r x post
theorem c93 (pre : List Lf) (x y : Lf) (post : List Lf) : e0j (pre ++ x :: y :: post) (pre.length + 1) = some y := by
 have := a4t (pre ++ [x]) y post
 simpa using this
theorem c5n : ∀ {a b : List (Nat × Nat)}, c91 a b = true → a = b
 | [], [], _ => rfl
 | (a, b) :: r, (c, d) :: s, h => by
  simp only [c91, f5U] at h
  rw [f5T h.1.1, f5T h.1.2, c5n h.2]
 | [], _ :: _, h => by cases h
 | _ :: _, [], h => by cases h
theorem e5H {v : Value} (h : d4r v = true) : v = .tuple #[] := by
 unfold d4r at h
 split at h
 ·rename_i vs
  have : vs = #[] := Array.eq_empty_of_size_eq_zero (f5T h)
  rw [this]
 ·cases h
theorem d5c {sh : HC} {c : C} (h : e9w sh c = true) (pre post : List Lf) : c92 (pre ++ (lvC c ++ post)) pre.length sh = (c, pre.length + (lvC c).length) := by
 unfold e9w at h
 split at h <;> (try simp only [f5U] at h)
 ·rfl
 ·have := eq_of_beq h; subst this; simp [c92, lvC, li, a4t]
 ·simp [c92, lvC, lb, a4t]
 ·have := eq_of_beq h; subst this; rfl
 ·simp [c92, lvC, ls, a4t]
 ·have := eq_of_beq h; subst this; rfl
 ·have := f5T h; subst this; simp [c92, lvC, lb, ll, a4t, c93]
 ·have := f5T h; subst this; rfl
 ·rfl
 ·have := e5H h; subst this; rfl
 ·have e1 := f5T h.1; have e2 := f5T h.2; subst e1 e2; rfl
 ·have e1 := f5T h.1; have e2 := f5T h.2; subst e1 e2; simp [c92, lvC, ld, a4t]
 ·have e1 := f5T h.1.1; have e2 := f5T h.1.2; have e3 := f5T h.2; subst e1 e2 e3; simp [c92, lvC, ln, a4t]
 ·obtain ⟨⟨⟨⟨h1, h2⟩, h3⟩, h4⟩, h5⟩ := h
  have e1 := f5T h1; have e2 := f5T h2; have e3 := f5T h3; have e4 := f5T h4; have e5 := f5T h5
  subst e1 e2 e3 e4 e5; simp [c92, lvC, ln, a4t]
 ·have := f5T h; subst this; rfl
 ·have := f5T h; subst this; rfl
 ·have e1 := f5T h.1; have e2 := f5T h.2; subst e1 e2; rfl
 ·have := f5T h; subst this; rfl
 ·have e1 := f5T h.1; have e2 := f5T h.2; subst e1 e2; rfl
 ·simp [c92, lvC, lb, a4t]
 ·have e1 := f5T h.1; have e2 := c5n h.2; subst e1 e2; rfl
 ·have e1 := f5T h.1.1; have e2 := b4t h.2; have e3 := h.1.2
  simp only [Bool.not_eq_true'] at e3
  subst e1 e2 e3; rfl
 ·rfl
 ·cases h
theorem c2a : ∀ {sh : List HC} {cs : List C}, c7I sh cs = true → ∀ (pre post : List Lf), c5m (pre ++ (e5G cs ++ post)) pre.length sh = (cs, pre.length + (e5G cs).length)
 | [], [], _, pre, post => rfl
 | x :: xs, y :: ys, h, pre, post => by
  simp only [c7I, f5U] at h
  have h1 := d5c h.1 pre (e5G ys ++ post)
  have h2 := c2a h.2 (pre ++ lvC y) post
  simp only [List.length_append, List.append_assoc] at h2
  simp only [c5m, e5G, List.append_assoc, h1, h2, List.length_append, Nat.add_assoc]
 | [], _ :: _, h, _, _ => by cases h
 | _ :: _, [], h, _, _ => by cases h
theorem e5I {sh : HV} {v : V} (h : f4w sh v = true) (pre post : List Lf) : e9c (pre ++ (lvV v ++ post)) pre.length sh = (v, pre.length + (lvV v).length) := by
 cases sh <;> cases v <;> first | (simp [f4w] at h; done) | skip
 ·simp only [e9c, lvV, d5c (show e9w _ _ = true from h)]
 ·simp only [e9c, lvV, c2a (show c7I _ _ = true from h)]
theorem e5J {sh : HO} {o : Obj} (h : e9b sh o = true) (pre post : List Lf) : e34 (pre ++ (lvO o ++ post)) pre.length sh = (o, pre.length + (lvO o).length) := by
 cases sh <;> cases o <;> first | (simp [e9b] at h; done) | skip
 ·simp only [e34, lvO, c2a (show c7I _ _ = true from h)]
 ·simp only [e9b, f5U] at h
  have e1 := f5T h.1; have e2 := eq_of_beq h.2
  subst e1 e2
  simp [e34, lvO, lb, ll, a4t, c93]
 ·simp only [e9b, f5U] at h
  have e1 := f5T h.1; have e2 := f5T h.2
  subst e1 e2
  simp [e34, lvO, lm, a4t]
 ·simp only [e9b, f5U] at h
  have e1 := f5T h.1.1; have e2 := f5T h.1.2; have e3 := c5l h.2
  subst e1 e2 e3
  simp [e34, lvO]
 ·have e1 := f5T (show Nat.beq _ _ = true from h)
  subst e1
  simp [e34, lvO, ld, a4t]
theorem c2b {α β : Type} {fit : α → β → Bool} {lv : β → List Lf} {mk : List Lf → Nat → α → β × Nat} (hf : ∀ sh x, fit sh x = true → ∀ pre post, mk (pre ++ (lv x ++ post)) pre.length sh = (x, pre.length + (lv x).length)) :
  ∀ {sh : AL α} {l : AL β}, d5b fit sh l = true → ∀ (pre post : List Lf), c7J (mk (pre ++ (e0P lv l ++ post))) pre.length sh = (l, pre.length + (e0P lv l).length)
 | [], [], _, pre, post => rfl
 | (k, x) :: xs, (k', y) :: ys, h, pre, post => by
  simp only [d5b, f5U] at h
  have e := f5T h.1.1
  subst e
  have h1 := hf x y h.1.2 pre (e0P lv ys ++ post)
  have h2 := c2b hf h.2 (pre ++ lv y) post
  simp only [List.length_append, List.append_assoc] at h2
  simp only [c7J, e0P, List.append_assoc, h1, h2, List.length_append, Nat.add_assoc]
 | [], _ :: _, h, _, _ => by cases h
 | _ :: _, [], h, _, _ => by cases h
theorem e5K {sh : Sh} {st : St} (h : e0O sh st = true) : a0p sh (f4x st) = st := by
 unfold e0O at h
 simp only [f5U] at h
 have h1 := c2b (lv := lvV) (mk := e9c) (fun _ _ h pre post => e5I h pre post) h.1 [] (e0P lvO st.mem)
 have h2 := c2b (lv := lvO) (mk := e34) (fun _ _ h pre post => e5J h pre post) h.2 (e0P lvV st.tmps) []
 simp only [List.nil_append, List.length_nil, Nat.zero_add, List.append_nil] at h1 h2
 unfold a0p f4x
 rw [h1]
 simp only
 rw [h2]
def d5d {α : Type} (sh : Sh) (A : List Lf → List (Bool × α)) (st : St) : Option (List (Bool × α)) := bif e0O sh st then some (A (f4x st)) else none
theorem b2l {α : Type} {sh : Sh} {A : List Lf → List (Bool × α)} {Q : St → α → Prop} (h : ∀ L x, a5f (A L) some = some x → Q (a0p sh L) x) : ∀ st alts, d5d sh A st = some alts → ∀ x, a5f alts some = some x → Q st x := by
 intro st alts ha x hx
 unfold d5d at ha
 cases hf : e0O sh st with
 | false => rw [hf] at ha; cases ha
 | true =>
  rw [hf] at ha
  simp only [cond_true, f5S] at ha
  subst ha
  rw [← e5K hf]
  exact h _ x hx
def a5P : AL V → List V
 | [] => []
 | (_, x) :: r => x :: a5P r
theorem a7U : ∀ (i : Nat) (args : List V), a5P (params i args) = args
 | _, [] => rfl
 | i, x :: r => by simp only [params, a5P, a7U]
def a2n (sh : Sh) (A : List Lf → List (Bool × Res)) (args : List V) (mem : AL Obj) : Option (List (Bool × Res)) := d5d sh A ⟨params 0 args, mem⟩
theorem a1h {sh : Sh} {A : List Lf → List (Bool × Res)} {P : Program} {f : FuncId} (h : ∀ L x, a5f (A L) some = some x → a1I P f (a5P (a0p sh L).tmps) (a0p sh L).mem x) : ∀ args mem alts, a2n sh A args mem = some alts → ∀ res, a5f alts some = some res → a1I P f args mem res := by
 intro args mem alts ha res hr
 have := b2l (Q := fun st x => a1I P f (a5P st.tmps) st.mem x) h ⟨params 0 args, mem⟩ alts ha res hr
 simpa only [a7U] using this
def a1m {A B R : Type} (k : A → R) (g : B → R) : Sum A B → R
 | .inl a => k a
 | .inr b => g b
def a04 {A B : Type} : Option (Sum A B) → Bool
 | some (.inl _) => true
 | _ => false
def a0P {A B : Type} [Inhabited A] : Option (Sum A B) → A
 | some (.inl a) => a
 | _ => default
def a0r {A B : Type} : Option (Sum A B) → Option B
 | some (.inr b) => some b
 | _ => none
theorem a2f {R : Type} (x y : R) (h : a5f [(true, y)] some = some x) : some y = some x := h
theorem a1f {A R : Type} [Inhabited A] {q : Option A} {f : A → R} (x : R) (h : a5f [(q.isSome, f (q.getD default))] some = some x) : q.bind (fun p => some (f p)) = some x := by
 cases q with
 | none => cases h
 | some a => exact h
theorem a4i {A B R : Type} [Inhabited A] {q : Option (Sum A B)} {f : A → R} {rest : List (Bool × R)} {g : B → Option R} (h : ∀ x, a5f rest some = some x → (a0r q).bind g = some x) (x : R)
  (hx : a5f ((a04 q, f (a0P q)) :: rest) some = some x) : q.bind (a1m (fun a => some (f a)) g) = some x := by
 match q, hx with
 | none, hx => exact h x hx
 | some (.inl a), hx => exact hx
 | some (.inr b), hx => exact h x hx
end Go.AM
namespace Go.AM
open Go
def c5o : Code → Code
 | .loop b => b
 | c => c
def reK {R : Type} (kn : St → Option R) (k : Ex → St → Option R) : Ex → St → Option R := fun e st => match e with
 | .normal => kn st
 | e => k e st
theorem d5e {R : Type} {P : Program} {cl : a0f} {hs : b0U} {kb n id : Nat} {b : Code} {st : St} {k : Ex → St → Option R} (hl : b7Q hs (.loop b) = none) (hid : 3 * a3m b = id) :
  a68 P cl hs kb (n + 1) (.loop b) st k = a68 P cl hs kb n b (a61 P kb hs.loops id st) (reK (fun st => a68 P cl hs kb n (.loop b) (a61 P kb hs.loops id st) k) k) := by
 subst hid
 have hl' : a7L P kb hs (.loop b) st = none := by unfold a7L; rw [hl]
 simp only [a68, hl', hl]
 congr 1
theorem e35 {X : Ctx} {Fs : a1K} {P : Program} {cl : a0f} {hs : b0U} {kb f id n : Nat} {a b : List Nat} {sh : Sh} {A : List Lf → List (Bool × (Ex × St))} (hP : a6B P) (hcl : a0b P cl) (hal : a1o P hs.los kb f X Fs) (h1 : c90 P f id = true) (hfs : b1z Fs (a2V P f id))
  (h : ∀ L x, a5f (A L) some = some x → a68 P cl hs kb n (a2V P f id) (a0p sh L) (fun e st => some (e, a60 a b st)) = some x) : a7j P kb (a2V P f id) (d5d sh A) X Fs :=
 e9u hP hcl hal h1 hfs a b (b2l (Q := fun st x => ∃ n, a68 P cl hs kb n (a2V P f id) st (fun e st => some (e, a60 a b st)) = some x) fun L x hx => ⟨n, h L x hx⟩)
inductive LT where
 | i | b | s | l | d | m | n
def acL : LT → List Lf → Nat → Lf
 | .i, L, k => .i (li L k)
 | .b, L, k => .b (lb L k)
 | .s, L, k => .s (ls L k)
 | .l, L, k => .l (ll L k)
 | .d, L, k => .d (ld L k)
 | .m, L, k => .m (lm L k)
 | .n, L, k => .n (ln L k)
def tyC : HC → List LT
 | .i _ => [.i]
 | .b => [.b]
 | .ifc => [.b]
 | .s => [.s]
 | .ks _ => [.s]
 | .sl _ => [.b, .l]
 | .nsl _ => [.b, .l]
 | .ksl _ _ => [.b, .l]
 | .el .. => [.d]
 | .re .. => [.n]
 | .pi .. => [.n]
 | _ => []
def f4y : List HC → List LT
 | [] => []
 | c :: r => tyC c ++ f4y r
def tyV : HV → List LT
 | .c x => tyC x
 | .g xs => f4y xs
def tyO : HO → List LT
 | .box xs => f4y xs
 | .row .. => [.b, .l]
 | .map .. => [.m]
 | .kmap .. => [.m]
 | .dat _ => [.d]
def f4z {α : Type} (f : α → List LT) : AL α → List LT
 | [] => []
 | (_, x) :: r => f x ++ f4z f r
def f5v (sh : Sh) : List LT := f4z tyV sh.tmps ++ f4z tyO sh.mem
def mxL (L x : List Lf) : List LT → Nat → List Nat → Nat → List Lf
 | [], _, _, _ => []
 | t :: ts, i, [], j => acL t L i :: mxL L x ts (i + 1) [] j
 | t :: ts, i, v :: vs, j => bif Nat.beq v i then acL t x j :: mxL L x ts (i + 1) vs (j + 1) else acL t L i :: mxL L x ts (i + 1) (v :: vs) j
def mx (sh : Sh) (vs : List Nat) (L x : List Lf) : List Lf := mxL L x (f5v sh) 0 vs 0
def pkL (L : List Lf) : List LT → Nat → List Nat → List Lf
 | [], _, _ => []
 | _ :: _, _, [] => []
 | t :: ts, i, v :: vs => bif Nat.beq v i then acL t L i :: pkL L ts (i + 1) vs else pkL L ts (i + 1) (v :: vs)
def pk (sh : Sh) (vs : List Nat) (L : List Lf) : List Lf := pkL L (f5v sh) 0 vs
def lpB (P : Program) (cl : a0f) (h : b0U) (kb f id : Nat) (sh : Sh) (vs a b : List Nat) (m : Nat) (kn : St → Option (Ex × St)) (L x : List Lf) : Option (Ex × St) :=
 a68 P cl h kb m (c5o (a2V P f id)) (a0p sh (mx sh vs L x)) (reK (fun st => kn (a61 P kb h.loops id st)) (fun e st => some (e, a60 a b st)))
theorem e0Q {P : Program} {cl : a0f} {kb f id : Nat} {h : b0U} {a b : List Nat} {sh : Sh} {vs : List Nat} {T : Type} {B : List Lf → List Lf → Option (Sum (List Lf) T)} {Q : List Lf → Nat → List Lf → Option T} {ko : List Lf → T → Option (Ex × St)} {ki : T → Option T}
  (hnl : b7Q h (.loop (c5o (a2V P f id))) = none) (hid : 3 * a3m (c5o (a2V P f id)) = id) (hc : ∀ L, a61 P kb h.loops id (a0p sh L) = a0p sh L)
  (step : ∀ m kn L x, lpB P cl h kb f id sh vs a b (m + 100) kn L x = (B L x).bind (a1m (fun y => kn (a0p sh (mx sh vs L y))) (ko L)))
  (q0 : ∀ L x, Q L 0 x = none) (qs : ∀ L m x, Q L (m + 1) x = (B L x).bind (a1m (Q L m) ki)) (hki : ∀ p, ki p = some p) :
  ∀ (m : Nat) (L x : List Lf) (r : Ex × St), (Q L m x).bind (ko L) = some r → a68 P cl h kb (m + 101) (.loop (c5o (a2V P f id))) (a0p sh (mx sh vs L x)) (fun e st => some (e, a60 a b st)) = some r := by
 intro m
 induction m with
 | zero => intro L x r hr; rw [q0] at hr; cases hr
 | succ m ih =>
  intro L x r hr
  rw [d5e hnl hid, hc]
  have e := step (m + 1) (fun s => a68 P cl h kb (m + 101) (.loop (c5o (a2V P f id))) s (fun e st => some (e, a60 a b st))) L x
  refine Eq.trans e ?_
  rw [qs] at hr
  cases hb : B L x with
  | none => rw [hb] at hr; cases hr
  | some q =>
   rw [hb] at hr
   cases q with
   | inl y => exact ih L y r hr
   | inr p =>
    have hr : (ki p).bind (ko L) = some r := hr
    rw [hki] at hr
    exact hr
def mgA {α : Type} (old new : AL α) : List Nat → AL α
 | [] => []
 | k :: r => match get new k with
  | some v => (k, v) :: mgA old new r
  | none => match get old k with
   | some v => (k, v) :: mgA old new r
   | none => mgA old new r
def mg (s : St) (ts : List Nat) (nt : AL V) (ks : List Nat) (nm : AL Obj) : St := ⟨mgA s.tmps nt ts, mgA s.mem nm ks⟩
def bd (P : Program) (cl : a0f) (h : b0U) (f : FuncId) (sh : Sh) (L : List Lf) : Option Res := body P cl h 200 f (a5P (a0p sh L).tmps) (a0p sh L).mem
def a0V (P : Program) (f : FuncId) (sh : Sh) (A : List Lf → List (Bool × Res)) : Prop := ∀ args mem alts, a2n sh A args mem = some alts → ∀ res, a5f alts some = some res → a1I P f args mem res
structure Sg (P : Program) (kb : Nat) (f : FuncId) (X : Ctx := e0i) (Fs : a1K := b2h) where
 h : b0U
 ok : a1o P h.los kb f X Fs
def Sg.start {X : Ctx} {Fs : a1K} {P : Program} {kb : Nat} {f : FuncId} (hd : a0M) (rg : List (Nat × List Nat)) (rows : Bool := false) : Sg P kb f X Fs := ⟨{ loops := hd, regs := rg, los := [], rows := rows }, a1o.nil⟩
def pc (P : Program) (cl : a0f) (h : b0U) (kb n f id : Nat) (sh : Sh) (L : List Lf) (a b : List Nat) : Option (Ex × St) := a68 P cl h kb n (a2V P f id) (a0p sh L) (fun e st => some (e, a60 a b st))
def Sg.cut {X : Ctx} {Fs : a1K} {P : Program} {cl : a0f} {kb f n : Nat} (s : Sg P kb f X Fs) {id : Nat} {a b : List Nat} {sh : Sh} (A : List Lf → List (Bool × (Ex × St))) (hP : a6B P) (hcl : a0b P cl) (h : ∀ L x, a5f (A L) some = some x → pc P cl s.h kb n f id sh L a b = some x) (h1 : c90 P f id = true := by kernel_rfl) (hfs : b1z Fs (a2V P f id) := by first | exact fsW _ | exact fsA (by kernel_rfl)) : Sg P kb f X Fs :=
 ⟨{ s.h with los := (id, d5d sh A) :: s.h.los }, a1o.cons s.ok h1 (e35 hP hcl s.ok h1 hfs h)⟩
def Sg.hand {X : Ctx} {Fs : a1K} {P : Program} {kb f : Nat} (s : Sg P kb f X Fs) {id : Nat} {sh : Sh} {A : List Lf → List (Bool × (Ex × St))} (h : a7j P kb (a2V P f id) (d5d sh A) X Fs) (h1 : c90 P f id = true := by kernel_rfl) : Sg P kb f X Fs :=
 ⟨{ s.h with los := (id, d5d sh A) :: s.h.los }, a1o.cons s.ok h1 h⟩
def orS {α : Type} (g : St → Option α) (o : Option (St → Option α)) : St → Option α := fun st => match g st with
 | some x => some x
 | none => match o with
  | some f => f st
  | none => none
theorem a7j.orS {X : Ctx} {Fs : a1K} {P : Program} {kb : Nat} {b : Code} {g : St → Option (List (Bool × (Ex × St)))} {o : Option (St → Option (List (Bool × (Ex × St))))} (hg : a7j P kb b g X Fs) (ho : ∀ f, o = some f → a7j P kb b f X Fs) : a7j P kb b (AM.orS g o) X Fs := by
 intro st alts ha
 unfold AM.orS at ha
 split at ha
 ·rename_i x hx
  simp only [f5S] at ha
  subst ha
  exact hg st _ hx
 ·cases o with
  | none => cases ha
  | some f => exact ho f rfl st _ ha
def Sg.no {X : Ctx} {Fs : a1K} {P : Program} {kb f : Nat} (s : Sg P kb f X Fs) (id : Nat) : Sg P kb f X Fs := ⟨{ s.h with los := del s.h.los id }, fun i g hg => by
 simp only [b1i] at hg
 by_cases hi : i = id
 ·rw [if_pos hi] at hg; cases hg
 ·rw [if_neg hi] at hg; exact s.ok i g hg⟩
def Sg.add {X : Ctx} {Fs : a1K} {P : Program} {kb f : Nat} (s t : Sg P kb f X Fs) (id : Nat) : Sg P kb f X Fs := ⟨{ s.h with los := match get t.h.los id with | some g => (id, orS g (get s.h.los id)) :: s.h.los | none => s.h.los }, by
 cases ht : get t.h.los id with
 | none => exact s.ok
 | some g => exact a1o.cons s.ok (t.ok id g ht).1 ((t.ok id g ht).2.orS fun f hf => (s.ok id f hf).2)⟩
def Sg.lp {X : Ctx} {Fs : a1K} {P : Program} {cl : a0f} {kb f : Nat} (s : Sg P kb f X Fs) {id : Nat} {a b : List Nat} {sh : Sh} {vs : List Nat} {T : Type} (A : List Lf → List (Bool × (Ex × St))) {B : List Lf → List Lf → Option (Sum (List Lf) T)} {Q : List Lf → Nat → List Lf → Option T} {ko : List Lf → T → Option (Ex × St)} {ki : T → Option T} (N : Nat) (hP : a6B P) (hcl : a0b P cl)
  (step : ∀ m kn L x, lpB P cl s.h kb f id sh vs a b (m + 100) kn L x = (B L x).bind (a1m (fun y => kn (a0p sh (mx sh vs L y))) (ko L)))
  (qs : ∀ L m x, Q L (m + 1) x = (B L x).bind (a1m (Q L m) ki)) (hA : ∀ L r, a5f (A L) some = some r → (Q L N (pk sh vs L)).bind (ko L) = some r)
  (h1 : c90 P f id = true := by kernel_rfl) (hlp : a2V P f id = .loop (c5o (a2V P f id)) := by kernel_rfl) (hnl : b7Q s.h (.loop (c5o (a2V P f id))) = none := by kernel_rfl) (hid : 3 * a3m (c5o (a2V P f id)) = id := by kernel_rfl)
  (hc : ∀ L, a61 P kb s.h.loops id (a0p sh L) = a0p sh L := by intro L; kernel_rfl) (h0 : ∀ L, a0p sh L = a0p sh (mx sh vs L (pk sh vs L)) := by intro L; kernel_rfl)
  (q0 : ∀ L x, Q L 0 x = none := by intro L x; rfl) (hki : ∀ p, ki p = some p := by intro p; first | rfl | (rcases p with p | p <;> rfl) | (rcases p with p | p | p <;> rfl) | (rcases p with p | p | p | p <;> rfl))
  (hfs : b1z Fs (a2V P f id) := by first | exact fsW _ | exact fsA (by kernel_rfl)) : Sg P kb f X Fs :=
 ⟨{ s.h with los := (id, d5d sh A) :: s.h.los }, a1o.cons s.ok h1 (e35 (n := N + 101) hP hcl s.ok h1 hfs fun L r hr => by rw [hlp, h0 L]; exact e0Q hnl hid hc step q0 qs hki N L _ r (hA L r hr))⟩
theorem Sg.fn {P : Program} {cl : a0f} {kb f : Nat} (s : Sg P kb f) {sh : Sh} {A : List Lf → List (Bool × Res)} (hP : a6B P) (hcl : a0b P cl) (h : ∀ L x, a5f (A L) some = some x → bd P cl s.h f sh L = some x) (hk : ∀ L, (a0p sh L).mem.length = kb := by intro L; rfl) : a0V P f sh A :=
 a1h fun L x hx => a3p (n := 200) hP hcl s.ok (hk L) (h L x hx)
theorem a0V.to {P : Program} {cl : a0f} {f : FuncId} {sh : Sh} {A : List Lf → List (Bool × Res)} (h : a0V P f sh A) (hcl : a0b P cl) (he : c19 P f = true := by kernel_rfl) : a0b P (ext f (a2n sh A) cl) := a0Y hcl (enters_of he) h
end Go.AM

namespace Go.AM
open Go

def c7K (P : Program) (T : CK → D → Prop) (e : TypeId) (x : D) : Prop :=
 if a0j P e = true then ∃ cs, x = .a cs ∧ a0B T (kinds P e) cs else ∃ k, kinds P e = [k] ∧ T k x
def TyK (P : Program) : Nat → CK → D → Prop
 | 0, _, _ => False
 | n + 1, k, d => match k with
  | .int k => ∃ i, d = .i i ∧ (Lit.int k i).wf = true
  | .bool => ∃ b, d = .b b
  | .str => ∃ s, d = .s s ∧ s.length ≤ maxLen
  | .sl e => ∃ nl xs, d = .l nl xs ∧ (nl = true → xs = []) ∧ xs.length ≤ maxLen ∧ ∀ x ∈ xs, c7K P (TyK P n) e x
  | .oth => False
def c94 (P : Program) : Nat → List Field → Nat → Bool
 | o, [], n => Nat.beq o n
 | o, f :: r, n => Nat.beq f.offset o && c94 P (o + a0d P f.type) r n
def b5W (P : Program) : Nat → TypeId → Bool
 | 0, _ => false
 | n + 1, T => match P.underlying T with
  | some (.int _) | some .bool | some .string | some (.slice _) => true
  | some (.struct fs) => c94 P 0 fs.toList (a0d P T) && fs.toList.all fun f => b5W P n f.type && Nat.beq (a0d P f.type) (a1k P n f.type).length
  | some (.array len e) => Nat.beq (a0d P T) (len * a0d P e) && b5W P n e && Nat.beq (a0d P e) (a1k P n e).length
  | _ => false
end Go.AM

namespace Go.AM
open Go

section
variable {H : Type} {enc : TypeId × Value → H} {P : Program} {w : World} {spare : Nat → Bool} {held : Bool}
def Sw (w : World) : a0Q := fun b _ => b < w.heap.size
def RT (P : Program) (w : World) (m : Nat) (kd : CK × D) (v : Value) : Prop := TyK P m kd.1 kd.2 ∧ a2e P w (Sw w) kd.1 kd.2 v
theorem b2m {α β : Type} {f : α → Option β} : ∀ {l : List α} {r : List β}, l.mapM f = some r → a0B (fun x y => f x = some y) l r
 | [], r, h => by simp at h; subst h; trivial
 | x :: l, r, h => by
  simp only [List.mapM_cons, Option.bind_eq_bind, Option.bind_eq_some_iff, Option.pure_def, f5S] at h
  obtain ⟨y, h1, ys, h2, rfl⟩ := h
  exact ⟨h1, b2m h2⟩
theorem b5q {n : Nat} : ∀ {fs : List Field} {o : Nat} {cs : List Value} {kds : Field → List (CK × D) → Prop} {R : CK × D → Value → Prop}, c94 P o fs n = true → cs.length = n →
  (∀ f ∈ fs, ∃ l, kds f l ∧ a0B R l ((cs.drop f.offset).take (a0d P f.type)) ∧ l.length = a0d P f.type) → ∃ ls : List (List (CK × D)), a0B kds fs ls ∧ a0B R ls.flatten (cs.drop o)
 | [], o, cs, kds, R, hc, hl, _ => by
  have := f5T hc
  refine ⟨[], trivial, ?_⟩
  rw [List.drop_eq_nil_of_le (by omega)]
  trivial
 | f :: r, o, cs, kds, R, hc, hl, h => by
  simp only [c94, f5U] at hc
  have ho := f5T hc.1
  obtain ⟨l, h1, h2, h3⟩ := h f (by simp)
  obtain ⟨ls, h4, h5⟩ := b5q hc.2 hl fun g hg => h g (by simp [hg])
  refine ⟨l :: ls, ⟨h1, h4⟩, ?_⟩
  rw [List.flatten_cons]
  have : cs.drop o = (cs.drop f.offset).take (a0d P f.type) ++ cs.drop (o + a0d P f.type) := by
   rw [ho, ← List.drop_drop, List.take_append_drop]
  rw [this]
  exact h2.append h5
theorem c5p {g : Field → List CK} : ∀ {fs : List Field} {ls : List (List (CK × D))}, a0B (fun f l => l.map Prod.fst = g f) fs ls → (ls.map (List.map Prod.fst)).flatten = fs.flatMap g
 | [], [], _ => rfl
 | f :: fs, l :: ls, h => by simp only [List.map_cons, List.flatten_cons, List.flatMap_cons, c5p h.2, h.1]
 | [], _ :: _, h => h.elim
 | _ :: _, [], h => h.elim
theorem c95 {n : Nat} {T : TypeId} (hf : b5W P (n + 1) T = true) (ha : a0j P T = false) : ∃ k, a1k P (n + 1) T = [k] := by
 unfold b5W at hf
 unfold a0j at ha
 unfold a1k
 split at hf <;> rename_i hu <;> simp only [hu] at ha ⊢ <;> first | exact ⟨_, rfl⟩ | (cases ha; done) | (cases hf; done)
theorem e0R {m' : Nat} {e : TypeId} {cs : List Value} {kds : List (CK × D)} (q1 : b5W P 12 e = true) (hk : kds.map Prod.fst = kinds P e) (h : a0B (RT P w m') kds cs) :
  ∃ x : D, c7K P (TyK P m') e x ∧ (∀ (j : Nat) (k : CK), (kinds P e)[j]? = some k → ∃ v, cs[j]? = some v ∧ a2e P w (Sw w) k (elD P e x j) v) ∧ ((a0j P e = true ∧ x = .a (kds.map Prod.snd)) ∨ (a0j P e = false ∧ kds.map Prod.snd = [x])) := by
 have hty : a0B (TyK P m') (kinds P e) (kds.map Prod.snd) := by
  rw [← hk]
  refine .of_get (by simp) fun j x y hx hy => ?_
  rw [List.getElem?_map] at hx hy
  obtain ⟨kd, h1, rfl⟩ := Option.map_eq_some_iff.1 hx
  rw [h1] at hy
  cases hy
  obtain ⟨v, _, hv⟩ := h.get h1
  exact hv.1
 have hre : ∀ (j : Nat) (k : CK), (kinds P e)[j]? = some k → ∃ v, cs[j]? = some v ∧ a2e P w (Sw w) k ((kds.map Prod.snd).getD j (.i 0)) v := by
  intro j k hj
  rw [← hk, List.getElem?_map] at hj
  obtain ⟨kd, h1, rfl⟩ := Option.map_eq_some_iff.1 hj
  obtain ⟨v, h2, hv⟩ := h.get h1
  refine ⟨v, h2, ?_⟩
  rw [f51, List.getElem?_map, h1]
  exact hv.2
 by_cases ha : a0j P e = true
 ·refine ⟨.a (kds.map Prod.snd), ?_, fun j k hj => ?_, .inl ⟨ha, rfl⟩⟩
  ·unfold c7K; rw [if_pos ha]; exact ⟨_, rfl, hty⟩
  ·unfold elD; rw [ha]; exact hre j k hj
 ·have ha := eq_false_of_ne_true ha
  obtain ⟨k0, hk0⟩ := c95 q1 ha
  have hk0 : kinds P e = [k0] := hk0
  have hl := hty.length
  rw [hk0] at hl hty hre
  match hq : kds.map Prod.snd, hl with
  | [x], _ =>
   rw [hq] at hty hre
   refine ⟨x, ?_, fun j k hj => ?_, .inr ⟨ha, rfl⟩⟩
   ·unfold c7K; rw [ha]; exact ⟨k0, hk0, hty.1⟩
   ·unfold elD; rw [ha]
    rw [hk0] at hj
    obtain ⟨v, h1, h2⟩ := hre j k hj
    refine ⟨v, h1, ?_⟩
    cases j with
    | zero => exact h2
    | succ j => simp at hj
end
end Go.AM

namespace Go.AM
open Go

def mkZ : List CK → List D → List C
 | k :: ks, d :: ds => mkC k d :: mkZ ks ds
 | _, _ => []
def f4d (P : Program) (T : TypeId) (ds : List D) : V :=
 bif a0j P T then .g (mkZ (kinds P T) ds) else match mkZ (kinds P T) ds with
  | x :: _ => .c x
  | [] => .c .u
def e0S (P : Program) : List TypeId → List (List D) → List V
 | T :: Ts, ds :: dss => f4d P T ds :: e0S P Ts dss
 | _, _ => []
def b8x (P : Program) (m : Nat) (T : TypeId) (ds : List D) : Prop := a0B (TyK P m) (kinds P T) ds
theorem a0H {α β : Type} {R : α → β → Prop} {x : α} {xs : List α} {ys : List β} (h : a0B R (x :: xs) ys) : ∃ y r, ys = y :: r ∧ R x y ∧ a0B R xs r := by
 cases ys with
 | nil => exact h.elim
 | cons y r => exact ⟨y, r, rfl, h.1, h.2⟩
theorem b2n {α β : Type} {R : α → β → Prop} {ys : List β} (h : a0B R [] ys) : ys = [] := by
 cases ys with
 | nil => rfl
 | cons => exact h.elim
def stB (P : Program) (T : TypeId) : Bool := P.readableRec T && decide (T < P.types.size)
theorem e5L {P : Program} {env : Env} {S : a0Q} {w : World} {k : CK} {d : D} {v : Value} (h : a2e P w S k d v) : a0x P env S w (mkC k d) v := by
 cases h with
 | int k d => rfl
 | bool d => rfl
 | str d => rfl
 | oth d => exact b12 (.oth d)
 | nil e d h1 h2 => exact .nil e _ h1 h2
 | emp e d a cap h1 h2 hm => exact .emp e _ a cap h1 h2 hm
 | sl e d b off cap cv h1 h2 hl hm h3 h4 => exact .sl e (.l d.isNil d.items) b off cap cv h1 h2 hl hm h3 h4
theorem d5f {P : Program} {env : Env} {S : a0Q} {w : World} {m : Nat} : ∀ {kds : List (CK × D)} {cs : List Value}, a0B (RT P w m) kds cs → a0O w (Sw w) w S → a0B (a0x P env S w) (mkZ (kds.map Prod.fst) (kds.map Prod.snd)) cs
 | [], [], _, _ => trivial
 | x :: r, y :: s, h, hk => ⟨e5L (h.1.2.mono hk), d5f h.2 hk⟩
 | [], _ :: _, h, _ => h.elim
 | _ :: _, [], h, _ => h.elim
section
variable {H : Type} {enc : TypeId × Value → H} {P : Program} {W : World}
theorem e0T {env : Env} {S : a0Q} {base : Nat} {T : TypeId} {v : Value} {kds : List D} (p1 : b5W P 12 T = true) (ho : Value.okWide P W .any base T v) (hz : a0B (a0x P env S W) (mkZ (kinds P T) kds) v.cells.toList) : a0G P env S W (f4d P T kds) v := by
 unfold f4d
 by_cases ha : a0j P T = true
 ·rw [cond_true ha]
  have : ∃ cs, v = .agg cs := by
   unfold a0j at ha
   unfold Value.okWide at ho
   split at ho
   ·obtain ⟨cs, h1, _⟩ := ho; exact ⟨cs, h1⟩
   ·obtain ⟨cs, h1, _⟩ := ho; exact ⟨cs, h1⟩
   ·rename_i q1 q2
    split at ha
    ·rename_i hu; exact absurd hu (q1 _)
    ·rename_i hu; exact absurd hu (q2 _ _)
    ·cases ha
  obtain ⟨cs, rfl⟩ := this
  exact ⟨cs, rfl, hz⟩
 ·have ha := eq_false_of_ne_true ha
  rw [cond_false ha]
  obtain ⟨k0, hk0⟩ := c95 p1 ha
  have hk0 : kinds P T = [k0] := hk0
  have hv : v.cells.toList = [v] := by
   cases v with
   | agg cs =>
    exfalso
    unfold a0j at ha
    unfold Value.okWide at ho
    split at ho
    ·rename_i hu; simp [hu] at ha
    ·rename_i hu; simp [hu] at ha
    ·unfold Cell.okWide at ho
     split at ho <;> (try rename_i hq) <;> (try cases hq)
     unfold Cell.ok at ho
     split at ho <;> (try rename_i hq) <;> (try cases hq) <;> exact ho
   | _ => rfl
  rw [hv] at hz
  generalize hzz : mkZ (kinds P T) kds = z at hz
  match z, hz with
  | [x], hz => exact hz.1
theorem b8y {W' : World} {sp : Nat → Bool} (hl : laidOutB P = true) (hb : RowKit.Below W.heap.size W W') : ∀ {Ts : List TypeId} {vs : List Value} {ds : List (DataW H)} {ps : List MemPlace}, (∀ T ∈ Ts, stB P T = true) → DataW.TrodAll enc P W 0 (fun _ => true) true Ts vs ds ps →
  (∀ p ∈ ps, p.block < W.heap.size) → (∀ p ∈ ps, sp p.block = true) → DataW.TrodAll enc P W' 0 sp true Ts vs ds ps
 | [], vs, ds, ps, _, h, _, _ => by
  obtain ⟨rfl, rfl, rfl⟩ := ChangeShapes.trodAll_nil h
  rfl
 | T :: Ts, vs, ds, ps, hp, h, hlt, hs => by
  obtain ⟨v, vs1, d, ds1, a, b, rfl, rfl, rfl, h1, h2⟩ := ChangeShapes.trodAll_cons h
  have hT := hp T (by simp)
  unfold stB at hT
  simp only [f5U, decide_eq_true_eq] at hT
  exact ⟨a, b, WideElems.Trod_stays hl hT.1 hT.2 h1 (fun x hx => hb.same (hlt x (List.mem_append_left _ hx))) (fun x hx => hs x (List.mem_append_left _ hx)),
   b8y hl hb (fun T hT => hp T (by simp [hT])) h2 (fun x hx => hlt x (List.mem_append_right _ hx)) (fun x hx => hs x (List.mem_append_right _ hx)), rfl⟩

theorem e0U {W' : World} {f : Func} {s : ChangeSpec} {apart a0L handsOn again : Bool} {args : Array Value} {ds gs : List (DataW H)} {before : List MemPlace} {tb : TypeId} (hl : laidOutB P = true) (hvars : s.vars = [])
  (hres : f.resultTypes = #[tb]) (htb : P.underlying tb = some .bool) (hpar : ∀ T ∈ f.params.toList, stB P T = true) (hs : ∀ l, l.length = f.params.size → s.fn H l = { results := [.lit (.bool true)], args := l })
  (hW : DataW.Whole enc P f.params.toList s.vars apart W args.toList ds gs before) (hb : RowKit.Below W.heap.size W W') : s.post enc P f apart a0L handsOn again W args (.bool true) W' := by
 have hlt := hW.lt
 obtain ⟨p, q, h1, h2, h3, h4, h5⟩ := hW
 rw [hvars] at h2
 have e2 : gs = [] ∧ q = [] := by
  cases gs with
  | nil => exact ⟨rfl, h2⟩
  | cons => exact h2.elim
 obtain ⟨rfl, rfl⟩ := e2
 rw [List.append_nil] at h3
 subst h3
 have len : ∀ {Ts : List TypeId} {vs : List Value} {ds : List (DataW H)} {ps : List MemPlace}, DataW.TrodAll enc P W 0 (fun _ => true) true Ts vs ds ps → ds.length = Ts.length := by
  intro Ts
  induction Ts with
  | nil => intro vs ds ps h; obtain ⟨rfl, rfl, rfl⟩ := ChangeShapes.trodAll_nil h; rfl
  | cons T Ts ih =>
   intro vs ds ps h
   obtain ⟨v, vs1, d, ds1, a, b, rfl, rfl, rfl, _, h⟩ := ChangeShapes.trodAll_cons h
   simp [ih h]
 have hs := hs (ds ++ []) (by rw [List.append_nil, len h1]; simp)
 rw [List.append_nil] at hs
 have hone : ∀ (b : Nat) (sp : Nat → Bool) (hd : Bool), DataW.Trod enc P W' b sp hd tb (.bool true) (.lit (.bool true)) [] := fun b sp hd => ⟨1, by simp [DataW.trod, htb, Value.cells]⟩
 have hresl : ((Value.bool true).resultList f.resultTypes.size) = [.bool true] := by rw [hres]; rfl
 refine ⟨ds, [], before, [], before, [], ⟨before, [], h1, by rw [hvars]; rfl, by simp, h4, h5⟩, ?_, ?_, ?_, hb.frame _, fun _ => ⟨?_, ds |>.cons (.lit (.bool true)), [], before, ?_, fun x hx _ => hx⟩⟩
 ·rw [List.append_nil, hs, hresl, hres]
  exact ⟨[], [], hone _ _ _, rfl, rfl⟩
 ·rw [List.append_nil, hs]
  exact b8y hl hb hpar h1 hlt fun x hx => decide_eq_true (hlt x hx)
 ·rw [List.append_nil, hs, hvars]; rfl
 ·intro j t r hj hv'
  rw [hresl] at hv'
  rw [hres] at hj
  cases j with
  | zero =>
   simp at hj hv'
   subst hj hv'
   simp [Value.okWide, htb, Cell.okWide, Cell.ok]
  | succ j => simp at hj
 ·refine ⟨before, [], ?_, by rw [hvars]; rfl, by simp, ?_, h5⟩
  ·rw [hresl, hres]
   exact ⟨[], before, hone _ _ _, b8y hl hb hpar h1 hlt fun x hx => rfl, rfl⟩
  ·intro b off hx
   rw [hb.frozen (p := ⟨b, off, none⟩) (hlt _ hx)]
   exact h4 b off hx

theorem e5M {f : FuncId} {fn : Func} {s : ChangeSpec} {apart a0L handsOn again : Bool} {tb : TypeId} (hl : laidOutB P = true) (hvars : s.vars = [])
  (hres : fn.resultTypes = #[tb]) (htb : P.underlying tb = some .bool) (hst : ∀ T ∈ fn.params.toList, stB P T = true) (hs : ∀ l, l.length = fn.params.size → s.fn H l = { results := [.lit (.bool true)], args := l })
  {avs : List V} (hc : a1I P f avs [] ([.c (.b true)], [])) (hgi : ∀ {M : a0Q}, (∀ b o, ¬ M b o) → GI P M W) {args : Array Value}
  (d2 : a0B (a0G P (fun _ => ⟨0, 0, none⟩) (Sof P (Sw W) (a5M P (fun _ => ⟨0, 0, none⟩) []) W.heap.size (fun _ => ⟨0, 0, none⟩) [] W) W) avs args.toList) {ds gs : List (DataW H)} {before : List MemPlace}
  (hW : DataW.Whole enc P fn.params.toList s.vars apart W args.toList ds gs before) : Calls P f args W fun e W' => ∃ v, e = .returned v ∧ s.post enc P fn apart a0L handsOn again W args v W' := by
 let env : Env := fun _ => ⟨0, 0, none⟩
 have hpre : b4o P (Sw W) env [] W := ⟨⟨rfl, fun k o h => (by cases h), fun k k' o o' h => (by cases h), fun k o b x h => (by cases h), fun k e ex xs h => (by cases h), Chg.refl _ W, fun b o h => h, fun _ _ => rfl, hgi fun b o ⟨k, ob, hg, _⟩ => (by cases hg)⟩, fun k o h => (by cases h)⟩
 refine (hc (Sw W) env W args hpre d2).mono fun e W' ⟨v, he, env', hm, hv'⟩ => ⟨v, he, ?_⟩
 have hno : ∀ b o, ¬ a5M P env [] b o := fun b o ⟨k, ob, hg, _⟩ => by cases hg
 have hb : RowKit.Below W.heap.size W W' := ⟨hm.ch.os, hm.ch.tape, hm.ch.output, hm.ch.size, fun k hk => by
  have hs := Array.getElem?_eq_getElem hk
  rw [hs]
  exact hm.ch.other k _ hs (hno k)⟩
 have : v = .bool true := hv'
 subst this
 exact e0U hl hvars hres htb hst hs hW hb
end
end Go.AM

namespace Go.AM
open Go

theorem a0s {A R : Type} (e : A) (f : A → R) : bnd e f = f e := rfl
theorem a1g {x : Int} (h1 : -9223372036854775808 ≤ x) (h2 : x ≤ 9223372036854775807) : IntKind.wrap .i64 x = x := by rw [IntKind.wrap_i64]; omega
theorem a1u {i : Int} {n : Nat} (h1 : 0 ≤ i) (h2 : i < n) : inB i n = true := by unfold inB; rw [decide_eq_true h1, decide_eq_true h2]; rfl
theorem a3Z {A X : Type} {S : A → (A → X) → X} {L : Nat → A → X} (hL : ∀ m a, L (m + 1) a = S a (L m)) (spec : A → X) (Inv : A → Prop) (μ : A → Nat)
  (h : ∀ a kr, Inv a → (∀ a', Inv a' → μ a' < μ a → kr a' = spec a') → S a kr = spec a) : ∀ (m : Nat) (a : A), Inv a → μ a < m → L m a = spec a := by
 intro m
 induction m with
 | zero => intro a _ h; omega
 | succ m ih => intro a ha hm; rw [hL]; exact h a (L m) ha fun a' h1 h2 => ih a' h1 (by omega)
theorem a2w {α : Type} (d : α) {xs : List α} {w : Int} (h0 : 0 ≤ w) (h1 : w < xs.length) : xs.drop w.toNat = xs.getD w.toNat d :: xs.drop (w + 1).toNat := by
 have e : (w + 1).toNat = w.toNat + 1 := by omega
 have hl : w.toNat < xs.length := by omega
 rw [e, List.drop_eq_getElem_cons hl, f51, f58 hl]
 rfl
theorem a1y {α : Type} {xs : List α} {w : Int} (h1 : ¬ w < xs.length) : xs.drop w.toNat = [] := List.drop_eq_nil_of_le (by omega)
theorem a88 {α X : Type} {xs : List α} (d : α) {S : Int → (Int → X) → X} {L : Nat → Int → X} (hL : ∀ m a, L (m + 1) a = S a (L m)) (spec : Int → List α → X) (hlen : xs.length ≤ maxLen)
  (hend : ∀ kr, S xs.length kr = spec xs.length [])
  (hstep : ∀ (w : Int) (kr : Int → X), 0 ≤ w → w < xs.length → IntKind.wrap .i64 (w + 1) = w + 1 → inB w xs.length = true → kr (w + 1) = spec (w + 1) (xs.drop (w + 1).toNat) → S w kr = spec w (xs.getD w.toNat d :: xs.drop (w + 1).toNat))
  {N : Nat} (hN : maxLen < N) : L N 0 = spec 0 xs := by
 have hm : maxLen = 9223372036854775807 := rfl
 have := a3Z hL (fun w => spec w (xs.drop w.toNat)) (fun w => 0 ≤ w ∧ w ≤ xs.length) (fun w => (xs.length - w).toNat) (fun w kr ⟨h0, h1⟩ ih => by
  by_cases hw : w < xs.length
  ·rw [a2w d h0 hw]
   exact hstep w kr h0 hw (a1g (by omega) (by omega)) (a1u h0 hw) (ih (w + 1) ⟨by omega, by omega⟩ (by omega))
  ·have : w = xs.length := by omega
   subst this
   rw [a1y (by omega)]
   exact hend kr) N 0 ⟨Int.le_refl _, by omega⟩ (by omega)
 simpa using this
theorem c0D {R : Type} {c c' : Bool} {x y : R} (h : c = c') : (bif c then x else y) = (bif c' then x else y) := by rw [h]
theorem b6k {A B : Type} (a : A) : a04 (some (Sum.inl a : Sum A B)) = true := rfl
theorem a9V {A B : Type} (b : B) : a04 (some (Sum.inr b : Sum A B)) = false := rfl
theorem c2c {A B : Type} [Inhabited A] (a : A) : a0P (some (Sum.inl a : Sum A B)) = a := rfl
theorem a9W {A B : Type} (b : B) : a0r (some (Sum.inr b : Sum A B)) = some b := rfl
theorem getD_some {A : Type} (a d : A) : (some a).getD d = a := rfl
end Go.AM

namespace Go.AM
open Go

section
variable {P : Program} {N n0 kb : Nat} {F : Nat → Prop} {B M0 : a0Q} {w0 : World} {e0 : b0H} {env : Env} {st : St} {a : Act} {w : World}
theorem Rel.unbase (h : Rel P N n0 B M0 w0 F e0 env st a w) {F' : Nat → Prop} (hF : ∀ k, F k → F' k) {env' : Env} {out : St} {a' : Act} {w' : World}
  (hin : Rel P N w.heap.size (Sof P B M0 n0 env st.mem w) (a5M P env st.mem) w F' ⟨env, a.defers⟩ env' out a' w') : Rel P N n0 B M0 w0 F e0 env' out a' w' := by
 have hback : ∀ b x, a5M P env st.mem b x → M0 b x ∨ n0 ≤ b := fun b x ⟨k, ob, g, q⟩ => h.mu k ob b x g q
 have hS1 : a0O w' (Sof P (Sof P B M0 n0 env st.mem w) (a5M P env st.mem) w.heap.size env' out.mem w') w' (Sof P B M0 n0 env' out.mem w') := by
  intro b x u hS hcell
  refine ⟨⟨?_, hS.2.1, hS.2.2⟩, hcell⟩
  rcases hS.1 with h1 | h1 | h1
  ·exact h1.1
  ·exact .inr (.inl (Nat.le_trans h.n0le h1))
  ·rcases hback b x h1 with h2 | h2
   ·exact .inr (.inr h2)
   ·exact .inr (.inl h2)
 have hdfr : a2K n0 w' e0.D a'.defers := h.dfr.join hin.dfr h.n0le fun b hb => hin.ch.other b _ hb fun x ⟨k, ob, g, q⟩ => b4j (h.ob k ob g) q hb
 refine ⟨hin.size, hdfr, h.hn0, fun t x hx => a0w.mono hS1 (fun _ => rfl) (hin.tm t x hx), fun key o hg => a1H hS1 (fun _ => rfl) (hin.ob key o hg), hin.ds, ?_, ?_, ?_, h.bb, fun k hk => (hin.fx k (hF k hk)).trans (h.fx k hk), h.gi⟩
 ·intro key o b x hg hm
  rcases hin.mu key o b x hg hm with h1 | h1
  ·exact hback b x h1
  ·exact .inr (Nat.le_trans h.n0le h1)
 ·intro key e ex xs hg o ho
  rcases hin.pr key e ex xs hg o ho with h1 | h1 | h1
  ·exact h1.1
  ·exact .inr (.inl (Nat.le_trans h.n0le h1))
  ·rcases hback _ _ h1 with h2 | h2
   ·exact .inr (.inr h2)
   ·exact .inr (.inl h2)
 ·refine Chg.trans h.ch hin.ch fun b o hm => ?_
  rw [← h.hn0]
  exact hback b o hm
end
end Go.AM

namespace Go.AM
open Go

section
variable {P : Program} {N n0 kb n : Nat} {F : Nat → Prop} {B M0 : a0Q} {w0 : World} {e0 : b0H} {env : Env} {st : St} {a : Act} {w : World} {Fe : Fence}
theorem Rel.grow (h : Rel P N n0 B M0 w0 F e0 env st a w) (l : Nat) {rc : Loop} (hl0 : w0.heap[l]? = some (.loop rc)) : Rel P N n0 B (fun b o => M0 b o ∨ b = l) w0 F e0 env st a w := by
 have hk : a0O w (Sof P B M0 n0 env st.mem w) w (Sof P B (fun b o => M0 b o ∨ b = l) n0 env st.mem w) := fun b o v hS hv =>
  ⟨⟨hS.1.imp id (fun q => q.imp id .inl), hS.2.1, hS.2.2⟩, hv⟩
 refine ⟨h.size, h.dfr, h.hn0, fun t x hx => a0w.mono hk (fun _ => rfl) (h.tm t x hx), fun key o hg => a1H hk (fun _ => rfl) (h.ob key o hg), h.ds, fun key o b x hg hm => (h.mu key o b x hg hm).imp .inl id,
  fun key e ex xs hg o ho => (h.pr key e ex xs hg o ho).imp id (fun q => q.imp id .inl), ⟨h.ch.os, h.ch.tape, h.ch.output, h.ch.size, fun b cur T fr hb => ?_, fun b ob hb hno => h.ch.other b ob hb fun o hm => hno o (.inl hm)⟩, h.bb, h.fx, fun x hx g hg => ?_⟩
 case refine_2 =>
  obtain ⟨q1, cur, T, fr, q2, q3⟩ := h.gi x hx g hg
  exact ⟨fun o hm => hm.elim (q1 o) fun e => (by subst e; rw [hl0] at q2; cases q2), cur, T, fr, q2, q3⟩
 obtain ⟨c', fr', h1, h2, h3, h4⟩ := h.ch.cells b cur T fr hb
 exact ⟨c', fr', h1, h2, fun o ho => h3 o fun hm => ho (.inl hm), h4.imp id fun q o => .inl (q o)⟩
theorem Rel.shrink {l : Nat} {rc : Loop} (h : Rel P N n0 B (fun b o => M0 b o ∨ b = l) w0 F e0 env st a w) (hl : w.heap[l]? = some (.loop rc)) (hl0 : w0.heap[l]? = some (.loop rc)) : Rel P N n0 B M0 w0 F e0 env st a w := by
 have hoff := Off.other h hl (fun _ _ _ e => by cases e) (fun _ _ e => by cases e)
 have hk : a0O w (Sof P B (fun b o => M0 b o ∨ b = l) n0 env st.mem w) w (Sof P B M0 n0 env st.mem w) := by
  intro b o v hS hv
  have hne : b ≠ l := by
   rintro rfl
   obtain ⟨cur, T, fr, q, _⟩ := a7e hv
   rw [hl] at q; cases q
  refine ⟨⟨?_, hS.2.1, hS.2.2⟩, hv⟩
  rcases hS.1 with q | q | q | q
  ·exact .inl q
  ·exact .inr (.inl q)
  ·exact .inr (.inr q)
  ·exact absurd q hne
 refine ⟨h.size, h.dfr, h.hn0, fun t x hx => a0w.mono hk (fun _ => rfl) (h.tm t x hx), fun key o hg => a1H hk (fun _ => rfl) (h.ob key o hg), h.ds, fun key o b x hg hm => ?_,
  fun key e ex xs hg o ho => ?_, ⟨h.ch.os, h.ch.tape, h.ch.output, h.ch.size, fun b cur T fr hb => ?_, fun b ob hb hno => ?_⟩, h.bb, h.fx, fun x hx g hg => (let ⟨q1, q⟩ := h.gi x hx g hg; ⟨fun o hm => q1 o (.inl hm), q⟩)⟩
 ·rcases h.mu key o b x hg hm with (q | q) | q
  ·exact .inl q
  ·obtain ⟨q1, q2⟩ := a2A hm
   exact absurd (q2.symm.trans q) (hoff key o hg q1)
  ·exact .inr q
 ·rcases h.pr key e ex xs hg o ho with q | q | q | q
  ·exact .inl q
  ·exact .inr (.inl q)
  ·exact .inr (.inr q)
  ·exact absurd q (hoff key _ hg rfl)
 ·have hne : b ≠ l := by rintro rfl; rw [hl0] at hb; cases hb
  obtain ⟨c', fr', h1, h2, h3, h4⟩ := h.ch.cells b cur T fr hb
  refine ⟨c', fr', h1, h2, fun o ho => h3 o fun hm => hm.elim ho hne, h4.imp id fun q o => (q o).elim id fun e => absurd e hne⟩
 ·by_cases hne : b = l
  ·subst hne; rw [hl0] at hb; rw [hl]; exact hb
  ·exact h.ch.other b ob hb fun o hm => hm.elim (hno o) hne
end
end Go.AM

namespace Go.AM
open Go

structure a2g where
 ps : List Nat
 ca : Code
 cb : Code
 tm : List (Nat × V)
 ky : Nat
 d : Nat
 hs : b0U := {}
def tmB (n : Nat) : V → Bool
 | .c (.p i _) => Nat.blt i n
 | .c (.i _ _) => true
 | .c (.b _) => true
 | .c (.k _) => true
 | .c (.s _) => true
 | _ => false
def e5N (F : Nat → Prop) (e0 : Env) : V → Value → Prop
 | .c (.p k o), v => F k ∧ v = .pointer (some ⟨(e0 k).blk, (e0 k).base + o, none⟩)
 | .c (.i k n), v => v = .int k n
 | .c (.b x), v => v = .bool x
 | .c (.k x), v => v = .bool x
 | .c (.s l), v => v = .string ⟨l.toArray⟩
 | _, _ => False
def c7d (Y : a2g) : Ctx := fun _ _ F _ M0 w0 e0 => F Y.ky ∧ (∀ o, ¬ M0 (e0 Y.ky).blk o) ∧ ∃ rc : Loop, w0.heap[(e0 Y.ky).blk]? = some (.loop rc) ∧ rc.state = .ready ∧ rc.pending = none ∧ rc.params = Y.ps.toArray ∧ rc.assign = Y.ca ∧
 rc.body = Y.cb ∧ okC rc.tmps.size rc.assign = true ∧ okC rc.tmps.size rc.body = true ∧ (∀ p ∈ Y.ps, p < rc.tmps.size) ∧ ∀ t ∈ Y.tm, e5N F e0 t.2 (rc.tmps.getD t.1 undef)
def b9H (P : Program) (kb : Nat) (Y : a2g) : Prop := a03 Y.ca = true ∧ a03 Y.cb = true ∧ ∀ b ∈ a05 Y.ca ++ a05 Y.cb, c47 P Y.hs kb b e0i a8E
def e9d (st : St) : Bool := st.tmps.all fun x => match x.2 with | .w .. => false | _ => true
def c2d (P : Program) (kb : Nat) (o : Oper) (st : St) : Bool := (st.tmps.all fun x => a3V P kb o (a7J x.2)) && st.mem.all fun x => !a0I P kb o x.1 && a3V P kb o (a1A x.2)
def c7L (st : St) (o : Oper) : Option (Nat × List Operand) :=
 match o.op with
 | .call c => (match c.callee with
  | .value f => (match evu st f with
   | .c (.y key) => some (key, c.args.toList)
   | _ => none)
  | _ => none)
 | _ => none
def c7M : List Nat → List V → AL V → AL V
 | p :: ps, v :: vs, tm => c7M ps vs (set tm p v)
 | _, _, tm => tm
def e36 : List (Nat × V) → List Nat
 | [] => []
 | (_, x) :: r => a8K x ++ e36 r
def f5w (P : Program) (kb : Nat) (o : Oper) (ks : List Nat) (mem : AL Obj) : Bool := mem.all fun x => (b37 x.1 ks || a0I P kb o x.1) && (a1A x.2).all fun k => b37 k ks || a0I P kb o k
def e37 {R : Type} (P : Program) (cl : a0f) (kb : Nat) (Y : a2g) (st : St) (k : St → Option R) : Option R :=
 a68 P cl Y.hs kb 200 Y.ca st fun e s1 => match e with
  | .normal => bif e9d s1 then a68 P cl Y.hs kb 200 Y.cb s1 (fun e s2 => match e with
   | .normal => k s2
   | _ => none) else none
  | _ => none
def d5g {R : Type} (P : Program) (cl : a0f) (kb : Nat) (Y : a2g) (key : Nat) (o : Oper) (xs : List Operand) (st : St) (k : St → Option R) : Option R :=
 match o.dst, o.guard with
 | some d, none => bif Nat.beq key Y.ky && (Nat.beq d Y.d || Y.hs.los.isEmpty) && Nat.beq xs.length Y.ps.length && e9d st && c2d P kb o st then (match b7O st.mem true 1000 (e36 Y.tm ++ xs.flatMap fun x => a8K (evu st x)) [] with
  | none => none
  | some ks => bif ks.all (fun i => Nat.blt i (a1e kb o.dst)) then e37 P cl (a1e kb o.dst) Y ⟨c7M Y.ps (xs.map (evu st)) Y.tm, a2M st.mem ks⟩ fun s2 =>
    bif a7K s2.mem && f5w P kb o ks s2.mem then k (merge P kb o ks st ⟨[(d, .c (.k true))], s2.mem⟩) else none
   else none) else none
 | _, _ => none
def a41 {R : Type} (P : Program) (cl : a0f) (kb : Nat) (Y : a2g) (ops : List Oper) : List Oper → St → (St → Option R) → Option R
 | [], st, k => k { st with tmps := c4w b9w st.tmps }
 | o :: rest, st, k => match c7L st o with
  | some q => d5g P cl kb Y q.1 o q.2 st fun st' => a41 P cl kb Y ops rest st' k
  | none => b4a P cl kb ops o st fun st' => a41 P cl kb Y ops rest st' k
def a7n : List Oper → Nat
 | [] => 0
 | o :: r => match o.op with
  | .call c => (match c.callee with | .value _ => 0 | _ => a7n r + 1)
  | _ => a7n r + 1
def d5h (ops : List Oper) (n : Nat) : Bool := (List.range ops.length).all fun j => Nat.blt j n || (List.range j).all fun i => b37 i ((a7a ops []).getD j [])
def c2e {R : Type} (P : Program) (cl : a0f) (kb : Nat) (Y : a2g) (ops : List Oper) (st : St) (k : St → Option R) : Option R :=
 bif a9I P kb ops && d5h ops (a7n ops) then a7I P cl kb ops (a5x ops ops) (ops.take (a7n ops)) (a7b (a9J P kb ops) st) [] fun st recs =>
  bif d2i P kb ops recs then a41 P cl kb Y ops (ops.drop (a7n ops)) st k else none
 else none
def d5i {R : Type} (P : Program) (cl : a0f) (kb : Nat) (Y : a2g) (c : Code) (st : St) (k : Ex → St → Option R) : Option R :=
 match c with
 | .region _ ops false => a41 P cl kb Y ops.toList ops.toList st (k .normal)
 | .region _ ops true => c2e P cl kb Y ops.toList st (k .normal)
 | _ => none
theorem d5j {st : St} (h : e9d st = true) : NoW st := by
 intro t x hx s b y he
 subst he
 have := List.all_eq_true.1 h _ (a5O hx)
 cases this
theorem d2J {P : Program} {kb : Nat} {o : Oper} {st : St} (h : c2d P kb o st = true) : b5i P kb o st := by
 unfold c2d at h
 rw [f5U] at h
 refine ⟨fun t x hx k hk => a2v (List.all_eq_true.1 h.1 _ (a5O hx)) k hk, fun k ob hg => ?_⟩
 have := List.all_eq_true.1 h.2 _ (a5O hg)
 rw [f5U, Bool.not_eq_true'] at this
 exact ⟨this.1, a2v this.2⟩
theorem c96 {R : V → Value → Prop} : ∀ {ps : List Nat} {vs : List V} {us : List Value} {tm : AL V} {ts : Array Value}, a0B R vs us → (∀ p ∈ ps, p < ts.size) → ps.length = vs.length → (∀ t y, get tm t = some y → R y (ts.getD t undef)) →
  ∀ t y, get (c7M ps vs tm) t = some y → R y (((ps.zip us).foldl (fun ts p => ts.setIfInBounds p.1 p.2) ts).getD t undef)
 | [], vs, us, tm, ts, _, _, _, h, t, y, hy => by simpa [c7M] using h t y (by simpa [c7M] using hy)
 | p :: ps, [], _, _, _, _, _, hl, _, _, _, _ => by simp at hl
 | p :: ps, v :: vs, [], _, _, hr, _, _, _, _, _, _ => hr.elim
 | p :: ps, v :: vs, u :: us, tm, ts, hr, hp, hl, h, t, y, hy => by
  refine c96 (ps := ps) (vs := vs) (us := us) (tm := set tm p v) (ts := ts.setIfInBounds p u) hr.2 (fun q hq => by simpa using hp q (by simp [hq])) (by simpa using hl) (fun t' y' hy' => ?_) t y hy
  rw [a2q] at hy'
  rw [f56, Array.getElem?_setIfInBounds]
  by_cases ht : t' = p
  ·subst ht
   rw [if_pos rfl] at hy'
   cases hy'
   rw [if_pos rfl, if_pos (hp t' (by simp))]
   exact hr.1
  ·rw [if_neg ht] at hy'
   rw [if_neg (Ne.symm ht), ← f56]
   exact h t' y' hy'
theorem d5k {us : List (Nat × Value)} : ∀ {ts : Array Value}, (us.foldl (fun ts p => ts.setIfInBounds p.1 p.2) ts).size = ts.size := by
 induction us with
 | nil => intro ts; rfl
 | cons p us ih => intro ts; rw [List.foldl_cons, ih]; simp
section
variable {P : Program} {N n0 kb n : Nat} {F : Nat → Prop} {B M0 : a0Q} {w0 : World} {e0 : b0H} {env : Env} {st : St} {a : Act} {w : World} {Fe : Fence}
theorem Rel.reenv {mem : AL Obj} {F' : Nat → Prop} {e : Env} {D : List Deferred} (h : Rel P N n0 B M0 w0 F ⟨e, D⟩ env ⟨[], mem⟩ a w)
  (hk : ∀ k o, get mem k = some o → (F' k → F k) ∧ ∀ k' ∈ a1A o, F' k' → F k') : ∃ env2, Rel P N n0 B M0 w0 F' ⟨e, D⟩ env2 ⟨[], mem⟩ a w := by
 classical
 obtain ⟨env2, he2⟩ : ∃ env2 : Env, env2 = fun k => if F' k then e k else env k := ⟨_, rfl⟩
 have same : ∀ k, (F' k → F k) → env2 k = env k := by
  intro k hk
  rw [he2]
  by_cases hf : F' k
  ·simp only [hf, if_true]; exact (h.fx k (hk hf)).symm
  ·simp only [hf, if_false]
 have hS : Sof P B M0 n0 env2 mem w = Sof P B M0 n0 env mem w := by
  funext b o
  refine propext ⟨fun q => ⟨q.1, q.2.1, fun key ob hg hm => q.2.2 key ob hg ?_⟩, fun q => ⟨q.1, q.2.1, fun key ob hg hm => q.2.2 key ob hg ?_⟩⟩
  ·rw [same key (hk key ob hg).1]; exact hm
  ·rw [same key (hk key ob hg).1] at hm; exact hm
 have hfx : ∀ k, F' k → env2 k = e k := fun k hf => by rw [he2]; simp only [hf, if_true]
 have htm0 : ∀ t x, get (([] : AL V)) t = some x → a0w P env2 (Sof P B M0 n0 env2 mem w) w a x (a.tmps.getD t undef) := fun t x hx => by cases hx
 refine ⟨env2, h.size, h.dfr, h.hn0, htm0, fun key o hg => ?_, fun k k' o o' hg hg' => ?_, fun key o b x hg hm => ?_, fun key e' ex xs hg => ?_, h.ch, h.bb, hfx, h.gi⟩
 ·rw [same key (hk key o hg).1]
  refine b8t (S := Sof P B M0 n0 env mem w) (w := w) (env := env) ?_ (fun k hkk => same k ((hk key o hg).2 k hkk)) (fun _ => rfl) (h.ob key o hg)
  show a0O w (Sof P B M0 n0 env mem w) w (Sof P B M0 n0 env2 mem w)
  rw [hS]
  exact fun _ _ _ a b => ⟨a, b⟩
 ·rw [same k (hk k o hg).1, same k' (hk k' o' hg').1]; exact h.ds k k' o o' hg hg'
 ·rw [same key (hk key o hg).1] at hm; exact h.mu key o b x hg hm
 ·rw [same key (hk key _ hg).1]; exact h.pr key e' ex xs hg
theorem a89 {w : World} {b : Nat} {o : Go.Obj} : w.grownBy (w.putObj b o) (some b) :=
 ⟨rfl, rfl, rfl, by simp, fun k hk hne => World.putObj_heap_other (fun e => hne (by rw [e]))⟩
theorem e0V {R : Type} {cl : a0f} (hcl : a0b P cl) (hdr : a1W P cl) {l f n1 n2 : Nat} {hs : b0U} {rc : Loop} {ca cb : Code} {tmps2 : Array Value} {tmX : AL V} {memX : AL Obj} {K : St → Option R} {r : R} {e1 : Env}
  (hrec : w.heap[l]? = some (.loop rc)) (hst : rc.state = .ready) (hpe : rc.pending = none)
  (hX : Rel P tmps2.size w.heap.size B M0 w F ⟨e1, []⟩ e1 ⟨tmX, memX⟩ { tmps := tmps2, defers := [] } w) (hM : ∀ o, ¬ M0 l o) (hF : ∀ k, F k → k < kb)
  (hoka : okC tmps2.size ca = true) (hokb : okC tmps2.size cb = true) (hda : a03 ca = true) (hdb : a03 cb = true) (hla : ∀ b ∈ a05 ca, c47 P hs kb b e0i a8E) (hlb : ∀ b ∈ a05 cb, c47 P hs kb b e0i a8E)
  (hrun : a68 P cl hs kb n1 ca ⟨tmX, memX⟩ (fun e s1 => match e with
   | .normal => bif e9d s1 then a68 P cl hs kb n2 cb s1 (fun e s2 => match e with
    | .normal => K s2
    | _ => none) else none
   | _ => none) = some r) :
  RoundIn Fence.wide n P l f tmps2 ca cb w fun e w' => e = .returned (.bool true) ∧ ∃ env' out a', Rel P tmps2.size w.heap.size B M0 w F ⟨e1, []⟩ env' out a' w' ∧ K out = some r ∧ w'.heap[l]? = some (.loop rc) := by
 refine roundIn_of_wpIn trivial (wpIn_mono (a9S (X := e0i) trivial hcl hdr hF n1 hoka (fsA hda) hla hX hrun _ _ (.inr ⟨l, rfl⟩)) ?_)
 intro e a1 w1 hp
 cases e with
 | exit i => obtain ⟨_, _, _, h4⟩ := hp; cases h4
 | ret => obtain ⟨_, _, _, h4⟩ := hp; cases h4
 | goto => exact hp.elim
 | panic => exact hp.elim
 | outgrown => exact hp.elim
 | normal =>
 obtain ⟨env1, st1, hA, hk1⟩ := hp
 simp only at hk1
 cases hnA : e9d st1 with
 | false => rw [hnA] at hk1; cases hk1
 | true =>
 rw [hnA] at hk1
 simp only [AM.cond_true rfl] at hk1
 have hr1 : w1.heap[l]? = some (.loop rc) := hA.ch.other l _ hrec hM
 refine ⟨_, run_beginRound hr1 hst, ?_⟩
 have hlt : l < w1.heap.size := (f53.1 hr1).1
 have hoff := Off.other hA hr1 (fun _ _ _ e => by cases e) (fun _ _ e => by cases e)
 have hG := (hA.grow l hrec).alienM (a89 (b := l) (o := .loop { rc with state := .busy })) ((hA.grow l hrec).dfr.grown a89 (fun r e d q => by cases e; rw [hr1] at q; cases q)) (fun r e => by cases e; exact ⟨.inr fun _ => .inr rfl, (fun c T f e => by rw [hr1] at e; cases e), hoff⟩)
 have hr2 := World.putObj_heap_same (w := w1) (r := l) (o := .loop { rc with state := .busy }) hlt
 generalize w1.putObj l (.loop { rc with state := .busy }) = w2 at hG hr2
 have hb := c15 hG (d5j hnA) (m := st1) (fun _ _ e => e) (fun _ _ e => e) F
 refine wpIn_mono (a9S (X := e0i) trivial hcl hdr hF n2 hokb (fsA hdb) hlb hb hk1 _ _ (.inr ⟨l, rfl⟩)) ?_
 intro e a3 w3 hp
 cases e with
 | exit i => obtain ⟨_, _, _, h4⟩ := hp; cases h4
 | ret => obtain ⟨_, _, _, h4⟩ := hp; cases h4
 | goto => exact hp.elim
 | panic => exact hp.elim
 | outgrown => exact hp.elim
 | normal =>
 obtain ⟨env3, st3, hC, hk3⟩ := hp
 simp only at hk3
 have hr3 : w3.heap[l]? = some (.loop { rc with state := .busy }) := hC.ch.other l _ hr2 fun o ⟨k, ob, g, q⟩ => by
  obtain ⟨q1, q2⟩ := a2A q
  exact hoff k ob g q1 q2.symm
 have hU := Rel.unbase hG (fun k hk => hk) hC
 have hlt3 : l < w3.heap.size := (f53.1 hr3).1
 have hoff3 := Off.other hU hr3 (fun _ _ _ e => by cases e) (fun _ _ e => by cases e)
 have hre : (Instr.endRound l none).run P w3 = .ok (.bool true) (w3.putObj l (.loop rc)) := by
  refine (run_endRound (P := P) none hr3).trans ?_
  cases rc
  simp only at hst hpe
  subst hst hpe
  rfl
 refine ⟨_, _, hre, rfl, env3, st3, a3, ?_, hk3, ?_⟩
 ·have hE := hU.alienM (a89 (b := l) (o := .loop rc)) (hU.dfr.grown a89 (fun r e d q => by cases e; rw [hr3] at q; cases q)) (fun r e => by cases e; exact ⟨.inr fun _ => .inr rfl, (fun c T f e => by rw [hr3] at e; cases e), hoff3⟩)
  exact hE.shrink (rc := rc) (World.putObj_heap_same hlt3) hrec
 ·exact World.putObj_heap_same hlt3
theorem d5l {o : Oper} {c : Call} {fv : Operand} {ps : List Nat} {l : Nat} {rc : Loop} (ho : o.op = .call c) (hc : c.callee = .value fv) (hv : a.eval fv = .func (.yield l) #[] #[]) (hrec : w.heap[l]? = some (.loop rc)) (hp : rc.params = ps.toArray) (hlen : c.args.toList.length = ps.length) :
  (execOp a.eval o).run P w = .ok (.round l rc.fn ((ps.zip (c.args.toList.map a.eval)).foldl (fun ts p => ts.setIfInBounds p.1 p.2) rc.tmps) rc.assign rc.body) w := by
 obtain ⟨xs, hxs⟩ : ∃ xs, xs = c.args.toList := ⟨_, rfl⟩
 have ha : c.args = xs.toArray := by rw [hxs]
 rw [← hxs] at hlen ⊢
 have hy := run_yield (P := P) (args := (xs.map a.eval).toArray) hrec (by rw [hp]; simp [hlen])
 rw [hp] at hy
 simp only [execOp, ho, resolve, hc, ha, Deferred.ofValue, hv, f5Y, f5Z, f5V, invoke]
 rw [show #[] ++ Array.map a.eval xs.toArray = (xs.map a.eval).toArray by simp, hy]
 simp
theorem e9x {S : a0Q} {F' : Nat → Prop} (hf : ∀ k, F' k → env k = e0 k) {x : V} {v : Value} (h : e5N F' e0 x v) : a0G P env S w x v := by
 match x, h with
 | .c (.p k o), h => show v = _; rw [hf k h.1]; exact h.2
 | .c (.i k n), h => exact h
 | .c (.b x), h => exact h
 | .c (.k x), h => exact h
 | .c (.s l), h => exact h
theorem b5r {R : Type} {cl : a0f} (hcl : a0b P cl) (hdr : a1W P cl) {Y : a2g} (hY : b9H P (a1e kb (some Y.d)) Y) {o : Oper} {xs : List Operand} {key : Nat} {k : St → Option R} {r : R} {Q : Exit → Act → World → Prop} (hF : ∀ k, F k → k < kb) (hX : c7d Y N n0 F B M0 w0 e0)
  (h : Rel P N n0 B M0 w0 F e0 env st a w) (hd : ∀ d, o.dst = some d → d < N) (ho : c7L st o = some (key, xs)) (hk : d5g P cl kb Y key o xs st k = some r) : o.guard = none ∧ o.wpIn Fence.wide n P a w (a1d P N n0 B M0 w0 F e0 k r) Q := by
 unfold d5g at hk
 split at hk
 case h_2 => cases hk
 rename_i d hdst hgd
 refine ⟨hgd, ?_⟩
 cases hc0 : Nat.beq key Y.ky && (Nat.beq d Y.d || Y.hs.los.isEmpty) && Nat.beq xs.length Y.ps.length && e9d st && c2d P kb o st with
 | false => rw [hc0] at hk; cases hk
 | true =>
 rw [hc0] at hk
 simp only [f5U] at hc0
 obtain ⟨⟨⟨⟨hkey, hdY⟩, hxl⟩, hnw⟩, hcl0⟩ := hc0
 have hkey := f5T hkey
 have hY : b9H P (a1e kb (some d)) Y := by
  rw [Bool.or_eq_true] at hdY
  rcases hdY with q | q
  ·rw [f5T q]; exact hY
  ·refine ⟨hY.1, hY.2.1, fun b _ id f hl => ?_⟩
   unfold b7Q at hl
   split at hl
   ·cases hl
   ·rw [List.isEmpty_iff.1 q] at hl
    cases hl
 have hxl := f5T hxl
 subst hkey
 have hn := d5j hnw
 have hc := d2J hcl0
 simp only [AM.cond_true rfl] at hk
 split at hk
 ·cases hk
 rename_i ks hks
 cases hlow : ks.all (fun i => Nat.blt i (a1e kb o.dst)) with
 | false => rw [hlow] at hk; cases hk
 | true =>
 rw [hlow] at hk
 simp only [AM.cond_true rfl] at hk
 -- the operation
 unfold c7L at ho
 split at ho
 case h_2 => cases ho
 rename_i c hop
 split at ho
 case h_2 => cases ho
 rename_i fv hcc
 split at ho
 case h_2 => cases ho
 rename_i key' hev
 simp only [f5S, f6a] at ho
 obtain ⟨rfl, rfl⟩ := ho
 have hval : a2p P o = false := by unfold a2p; rw [hop]; simp only; rw [hcc]
 have hent : a07 o = true := by unfold a07; rw [hop]; simp only; rw [hcc]
 have hfv : a.eval fv = .func (.yield (env Y.ky).blk) #[] #[] := by have := h.evu fv; rw [hev] at this; exact this
 obtain ⟨hFk, hM0, rc, hrec0, hst, hpe, hp, hA, hB, hokA, hokB, hpn, htm⟩ := hX
 have hek : env Y.ky = e0 Y.ky := h.fx _ hFk
 rw [hek] at hfv
 have hrec : w.heap[(e0 Y.ky).blk]? = some (.loop rc) := h.ch.other _ _ hrec0 hM0
 rw [hA] at hokA
 rw [hB] at hokB
 refine ⟨fun _ _ => trivial, ?_⟩
 rw [show Fence.wide.round = none from rfl, Oper.semAt_none, d5l hop hcc hfv hrec hp hxl, Oper.uponIn_round, hA, hB]
 refine ⟨(fun h => by cases h), ?_⟩
 have hmX : ∀ k, get (a2M st.mem ks) k = if k ∈ ks then get st.mem k else none := fun k => a7i
 have hsub : ∀ k ob, get (a2M st.mem ks) k = some ob → get st.mem k = some ob := fun k ob hg => by
  rw [hmX] at hg
  by_cases hk : k ∈ ks
  ·rw [if_pos hk] at hg; exact hg
  ·rw [if_neg hk] at hg; cases hg
 have hm := c15 h hn (m := ⟨[], a2M st.mem ks⟩) (fun t x hx => by cases hx) hsub (fun k => k ∈ ks)
 have hkp : a0O w (Sof P B M0 n0 env st.mem w) w (Sof P (Sof P B M0 n0 env st.mem w) (a5M P env (a2M st.mem ks)) w.heap.size env (a2M st.mem ks) w) := fun b o v hS hv =>
  ⟨⟨.inl hS, hS.2.1, fun key ob hg hmu => hS.2.2 key ob (hsub key ob hg) hmu⟩, hv⟩
 have hargs : a0B (a0G P env (Sof P B M0 n0 env st.mem w) w) (c.args.toList.map (evu st)) (c.args.toList.map a.eval) := .of_get (by simp) fun j x y hx hy => by
  rw [List.getElem?_map] at hx hy
  obtain ⟨q, q1, rfl⟩ := Option.map_eq_some_iff.1 hx
  rw [q1] at hy
  cases hy
  exact h.evu q
 have htx : ∀ t y, get (c7M Y.ps (c.args.toList.map (evu st)) Y.tm) t = some y → a0G P env (Sof P B M0 n0 env st.mem w) w y (((Y.ps.zip (c.args.toList.map a.eval)).foldl (fun ts p => ts.setIfInBounds p.1 p.2) rc.tmps).getD t undef) :=
  c96 hargs hpn (by simpa using hxl.symm) fun t y hy => e9x (fun k hf => h.fx k hf) (htm _ (a5O hy))
 obtain ⟨ts, hts⟩ : ∃ ts, ts = (Y.ps.zip (c.args.toList.map a.eval)).foldl (fun ts p => ts.setIfInBounds p.1 p.2) rc.tmps := ⟨_, rfl⟩
 have hszp : ts.size = rc.tmps.size := by rw [hts]; exact d5k
 rw [← hts] at htx ⊢
 have hXr := hm.act (tmps := c7M Y.ps (c.args.toList.map (evu st)) Y.tm) (a2 := { tmps := ts, defers := [] }) (D' := []) .nil fun t y hy => a0w.of (a0G.mono hkp (fun _ => rfl) (htx t y hy))
 have hlM : ∀ o, ¬ a5M P env (a2M st.mem ks) (e0 Y.ky).blk o := fun o ⟨k, ob, g, q⟩ => by
  obtain ⟨q1, q2⟩ := a2A q
  exact Off.other h hrec (fun _ _ _ e => by cases e) (fun _ _ e => by cases e) k ob (hsub k ob g) q1 q2.symm
 obtain ⟨hy1, hy2, hy3⟩ := hY
 rw [← hdst] at hy3
 unfold e37 at hk
 refine (e0V (kb := a1e kb o.dst) (n := n - 1) hcl hdr hrec hst hpe hXr hlM (fun k hk => f54 (List.all_eq_true.1 hlow k hk)) (by rw [hszp]; exact hokA) (by rw [hszp]; exact hokB) hy1 hy2 (fun b hb => hy3 b (List.mem_append.2 (.inl hb))) (fun b hb => hy3 b (List.mem_append.2 (.inr hb))) hk).mono ?_
 rintro e w' ⟨rfl, env', out, a', hR, hk2, _⟩
 cases hfu : a7K out.mem && f5w P kb o ks out.mem with
 | false => rw [hfu] at hk2; cases hk2
 | true =>
 rw [hfu] at hk2
 simp only [AM.cond_true rfl] at hk2
 rw [f5U] at hfu
 obtain ⟨hfu, hik⟩ := hfu
 have hR0 := hR.act (tmps := []) (a2 := { tmps := ts, defers := [] }) (D' := []) .nil (fun t y hy => by cases hy)
 have hfresh : ∀ i : Nat, (b37 i ks || a0I P kb o i) = true → a0I P kb o i = false → i ∈ ks := by
  intro i hi hf
  rw [hf, Bool.or_false] at hi
  exact a1J.1 hi
 obtain ⟨env2, hR2⟩ := Rel.reenv (F' := fun i => a0I P kb o i = false) hR0 fun i ob hg => by
  have := List.all_eq_true.1 hik _ (a5O hg)
  rw [f5U] at this
  exact ⟨hfresh i this.1, fun k' hk' => hfresh k' (List.all_eq_true.1 this.2 k' hk')⟩
 have hin : Rel P N w.heap.size (Sof P B M0 n0 env st.mem w) (a5M P env (a2M st.mem ks)) w (fun k => a0I P kb o k = false) ⟨env, a.defers⟩ env2 ⟨[(d, .c (.k true))], out.mem⟩ (a.put o.dst (.bool true)) w' := by
  have h9 := hR2.act (tmps := [(d, .c (.k true))]) (a2 := a.put o.dst (.bool true)) (D' := a.defers) (by rw [d4R]; exact .nil) fun t y hy => by
   simp only [get] at hy
   cases hdt : Nat.beq d t with
   | false => rw [hdt] at hy; cases hy
   | true =>
    rw [hdt] at hy
    have := f5T hdt
    subst this
    have : y = .c (.k true) := (Option.some.inj hy).symm
    subst this
    rw [hdst, b8b (by rw [h.size]; exact hd d hdst)]
    exact a0w.of (x := .c (.k true)) rfl
  rw [c9M, h.size] at h9
  exact h9
 exact ⟨env2, _, frame (m := ⟨[], a2M st.mem ks⟩) h hn hc (fun k hk => by
   cases hb : a0I P kb o k with
   | false => rfl
   | true => exact absurd hk (b2g hF k hb)) (fun k => a7S hval) hmX hin (fun k ob hg => b1C hfu k ob hg) fun t ht => by rw [hdst]; exact a7P (fun e => ht (by rw [hdst, e])), hk2⟩
theorem b2o {R : Type} {cl : a0f} (hcl : a0b P cl) (hdr : a1W P cl) {Y : a2g} (hY : b9H P (a1e kb (some Y.d)) Y) (hF : ∀ k, F k → k < kb) (hX : c7d Y N n0 F B M0 w0 e0) {ops : Array Oper} {k : St → Option R} {r : R} {Q : Exit → Act → World → Prop}
  (hQ : ∀ a w, a1d P N n0 B M0 w0 F e0 k r a w → Q .normal a w) :
  ∀ {l : List Oper} {env : Env} {st : St} {a : Act} {w : World}, Rel P N n0 B M0 w0 F e0 env st a w → (∀ o ∈ l, ∀ d, o.dst = some d → d < N) → (∀ o ∈ l, ∀ c, o.op ≠ .defer c) → a41 P cl kb Y ops.toList l st k = some r → wpListIn Fence.wide n P ops Q l a w
 | [], env, st, a, w, h, _, _, hk => by
  refine hQ a w ⟨env, _, h.tmps fun t x hx => ?_, hk⟩
  rw [a1x] at hx
  cases hg : get st.tmps t with
  | none => rw [hg] at hx; cases hx
  | some y =>
   rw [hg] at hx
   simp only [f6b, f5S] at hx
   subst hx
   exact a0w.of (a5K (h.tm t y hg))
 | o :: l, env, st, a, w, h, hd, hdf, hk => by
  have next : ∀ a w, a1d P N n0 B M0 w0 F e0 (fun st' => a41 P cl kb Y ops.toList l st' k) r a w → wpListIn Fence.wide n P ops Q l a w := by
   rintro a w ⟨env', st', h1, h2⟩
   exact b2o hcl hdr hY hF hX hQ h1 (fun o' ho' => hd o' (by simp [ho'])) (fun o' ho' => hdf o' (by simp [ho'])) h2
  have hW : a8E Fence.wide := .inl rfl
  unfold a41 at hk
  unfold wpListIn
  split at hk
  ·rename_i q hq
   obtain ⟨g1, g2⟩ := b5r (n := n) (Q := Q) hcl hdr hY hF hX h (hd o (by simp)) hq hk
   rw [if_pos (by simp [Region.wanted, g1])]
   exact Oper.wpIn_mono next g2
  ·have ho := a5k (Q := Q) hcl (b2g hF) h (hd o (by simp)) hk
   split
   ·rename_i hw
    rw [if_pos hw] at ho
    exact b8q hW (.inr (hdf o (by simp))) (Oper.wp_mono next ho)
   ·rename_i hw
    rw [if_neg hw] at ho
    exact ⟨fun f _ => hW.fn f, next _ _ ho⟩
structure e5O (P : Program) (cl : a0f) (kb : Nat) (ops : Array Oper) (gs : List Nat) (iL : Nat) (rc : Nat → Rec) : Prop where
 topo : d2h 0 ops.toList = true
 op : ∀ (i : Nat) (o : Oper), i < iL → ops[i]? = some o → (rc i).o = o
 ff : ∀ (i j : Nat) (p q : Oper), i < j → ops[i]? = some p → ops[j]? = some q → a3I P kb p q = true
 nn : ∀ (i j : Nat) (q : Oper), i < j → j < iL → ops[j]? = some q → a2N P kb (rc i) q = true
 ap : ∀ (i j : Nat) (p q : Oper), i < j → j < iL → ops[i]? = some p → ops[j]? = some q → i ∈ (a7a ops.toList []).getD j [] ∨ (b7P ops.toList p q = true ∧ b0T P kb (rc i) (rc j) = true)
 full : ∀ (i : Nat), i < iL → a7K (rc i).out.mem = true
 last : iL ≤ ops.size
 anc : ∀ j, iL ≤ j → j < ops.size → ∀ i, i < j → i ∈ (a7a ops.toList []).getD j []
theorem c0E {listed : Array Bool} {x n : Nat} (hsz : listed.size = n) (hx : x < n) (h : ¬ listed.getD x true = false) : listed.getD x false = true := by
 have hds : x < listed.size := by omega
 simp only [f56, Array.getElem?_eq_getElem hds, Option.getD_some] at h ⊢
 simpa using h
theorem b2p {listed : Array Bool} {x n : Nat} (hsz : listed.size = n) (hx : x < n) (h : listed.getD x true = false) : ¬ listed.getD x false = true := by
 have hds : x < listed.size := by omega
 simp only [f56, Array.getElem?_eq_getElem hds, Option.getD_some] at h ⊢
 simp [h]
theorem c5q {R : Type} {cl : a0f} (hcl : a0b P cl) (hdr : a1W P cl) {Y : a2g} (hY : b9H P (a1e kb (some Y.d)) Y) (hX : c7d Y N n0 F B M0 w0 e0) {ops : Array Oper} {gs : List Nat} {iL : Nat} {rc : Nat → Rec} {k : St → Option R} {r : R} {Q : Exit → Act → World → Prop}
  (hdf : ∀ o ∈ ops.toList, ∀ c, o.op ≠ .defer c) (hF : ∀ k, F k → k < kb) (hd : ∀ o ∈ ops.toList, ∀ d, o.dst = some d → d < N) (hp : e5O P cl kb ops gs iL rc) (hQ : ∀ a w, a1d P N n0 B M0 w0 F e0 k r a w → Q .normal a w) :
  ∀ (fuel : Nat) {m : Nat} {listed : Array Bool} {env : Env} {st : St} {a : Act} {w : World}, Rel P N n0 B M0 w0 F e0 env st a w → a41 P cl kb Y ops.toList (ops.toList.drop m) st k = some r → iL ≤ m → m ≤ ops.size → listed.size = ops.size →
   (∀ i, i < ops.size → (listed.getD i true = false ↔ m ≤ i)) → ops.size ≤ m + fuel → wpAnyIn Fence.wide n P .any ops Q fuel listed a w := by
 have hend : ∀ {listed : Array Bool} {env : Env} {st : St} {a : Act} {w : World}, Rel P N n0 B M0 w0 F e0 env st a w → a41 P cl kb Y ops.toList [] st k = some r → (∀ i, i < ops.size → (listed.getD i true = false ↔ ops.size ≤ i)) → Region.ready .any ops listed = [] ∧ Q .normal a w := by
  intro listed env st a w h hk hl
  refine ⟨?_, ?_⟩
  ·cases hr : Region.ready .any ops listed with
   | nil => rfl
   | cons x l =>
    exfalso
    have : x ∈ Region.ready .any ops listed := by rw [hr]; simp
    obtain ⟨h1, h2, _⟩ := a4N.1 this
    have := (hl x h1).1 h2
    omega
  ·refine hQ a w ⟨env, _, h.tmps fun t x hx => ?_, hk⟩
   rw [a1x] at hx
   cases hg : get st.tmps t with
   | none => rw [hg] at hx; cases hx
   | some y =>
    rw [hg] at hx
    simp only [f6b, f5S] at hx
    subst hx
    exact a0w.of (a5K (h.tm t y hg))
 intro fuel
 induction fuel with
 | zero =>
  intro m listed env st a w h hk hm1 hm2 hsz hl hlen
  have : m = ops.size := by omega
  subst this
  rw [List.drop_eq_nil_of_le (by simp)] at hk
  exact hend h hk hl
 | succ fuel ih =>
  intro m listed env st a w h hk hm1 hm2 hsz hl hlen
  by_cases hm : m = ops.size
  ·subst hm
   rw [List.drop_eq_nil_of_le (by simp)] at hk
   obtain ⟨h1, h2⟩ := hend h hk hl
   exact ⟨fun _ => h2, fun x hx => by rw [h1] at hx; simp at hx⟩
  have hmlt : m < ops.size := by omega
  have hom : ops[m]? = some ops[m] := Array.getElem?_eq_getElem hmlt
  obtain ⟨o, ho'⟩ : ∃ o, o = ops[m] := ⟨_, rfl⟩
  rw [← ho'] at hom
  have homl : ops.toList[m]? = some o := by simpa using hom
  have hbelow : ∀ x, x < m → listed.getD x false = true := fun x hx => c0E hsz (by omega) fun hf => by have := (hl x (by omega)).1 hf; omega
  refine ⟨fun hready => ?_, fun i hi => ?_⟩
  ·exfalso
   have : m ∈ Region.ready .any ops listed := a4N.2 ⟨hmlt, (hl m hmlt).2 (Nat.le_refl _), o, hom, fun d hdd => by
    have hlt := a85 hp.topo m o homl d hdd
    rw [Nat.zero_add] at hlt
    exact hbelow d hlt⟩
   rw [hready] at this
   simp at this
  ·obtain ⟨hi1, hi2, o1, ho1, hdir⟩ := a4N.1 hi
   have hmi := (hl i hi1).1 hi2
   have him : i = m := by
    by_cases hlt : m < i
    ·exfalso
     have hclosed : ∀ (j : Nat) (o : Oper), ops[j]? = some o → listed.getD j false = true → ∀ d ∈ a6Z o, listed.getD d false = true := by
      intro j oj hoj hlj d hdd
      have hjs : j < ops.size := (f53.1 hoj).1
      have hjm : j < m := by
       by_cases hj : m ≤ j
       ·exact absurd hlj (b2p hsz hjs ((hl j hjs).2 hj))
       ·omega
      have hlt := a85 hp.topo j oj (by simpa using hoj) d hdd
      rw [Nat.zero_add] at hlt
      exact hbelow d (by omega)
     have hanc := a5m (L := fun x => listed.getD x false = true) (all := ops.toList) (fun j oj hj hl => hclosed j oj (by simpa using hj) hl) (ops := ops.toList) (pre := []) (tab := []) rfl rfl (fun _ _ hlt => by simp at hlt) i o1 (by simpa using ho1) hdir
     exact b2p hsz hmlt ((hl m hmlt).2 (Nat.le_refl _)) (hanc m (hp.anc i (by omega) hi1 m hlt))
    ·omega
   subst him
   rw [hom] at ho1
   cases ho1
   have hmem : o ∈ ops.toList := List.mem_of_getElem? homl
   have hdrop : ops.toList.drop i = o :: ops.toList.drop (i + 1) := by
    have hlt : i < ops.toList.length := by simpa using hmlt
    rw [List.drop_eq_getElem_cons hlt]
    congr 1
    rw [f58 hlt] at homl
    exact Option.some.inj homl
   rw [hdrop] at hk
   have hilt : i < listed.size := by omega
   have next : ∀ a w, a1d P N n0 B M0 w0 F e0 (fun st' => a41 P cl kb Y ops.toList (ops.toList.drop (i + 1)) st' k) r a w → wpAnyIn Fence.wide n P .any ops Q fuel (listed.setIfInBounds i true) a w := by
    rintro a w ⟨env', st', h1, h2⟩
    refine ih h1 h2 (by omega) (by omega) (by simpa using hsz) (fun x hx => ?_) (by omega)
    simp only [f56, Array.getElem?_setIfInBounds]
    by_cases hxi : i = x
    ·subst hxi
     rw [if_pos rfl, if_pos hilt]
     simp
    ·rw [if_neg hxi, ← f56, hl x hx]
     omega
   have hW : a8E Fence.wide := .inl rfl
   unfold a41 at hk
   unfold wpOpIn
   rw [hom]
   simp only
   split at hk
   ·rename_i q hq
    obtain ⟨g1, g2⟩ := b5r (n := n) (Q := Q) hcl hdr hY hF hX h (hd o hmem) hq hk
    rw [if_pos (by simp [Region.wanted, g1])]
    exact Oper.wpIn_mono next g2
   ·have ho := a5k (Q := Q) hcl (b2g hF) h (hd o hmem) hk
    split
    ·rename_i hw
     rw [if_pos hw] at ho
     exact b8q hW (.inr (hdf o hmem)) (Oper.wp_mono next ho)
    ·rename_i hw
     rw [if_neg hw] at ho
     exact ⟨fun f _ => hW.fn f, next _ _ ho⟩
theorem c5r {R : Type} {cl : a0f} (hcl : a0b P cl) (hdr : a1W P cl) {Y : a2g} (hY : b9H P (a1e kb (some Y.d)) Y) (hX : c7d Y N n0 F B M0 w0 e0) {ops : Array Oper} {gs : List Nat} {iL : Nat} {rc : Nat → Rec} {k : St → Option R} {r : R} {Q : Exit → Act → World → Prop}
  (hdf : ∀ o ∈ ops.toList, ∀ c, o.op ≠ .defer c) (hF : ∀ k, F k → k < kb)
  (hd : ∀ o ∈ ops.toList, ∀ d, o.dst = some d → d < N) (hp : e5O P cl kb ops gs iL rc) {stF : St} (hk : a41 P cl kb Y ops.toList (ops.toList.drop iL) stF k = some r) (hQ : ∀ a w, a1d P N n0 B M0 w0 F e0 k r a w → Q .normal a w) :
  ∀ (fuel : Nat) {rem : List Nat} {listed : Array Bool} {env : Env} {st : St} {a : Act} {w : World}, Rel P N n0 B M0 w0 F e0 env st a w → NoW st → (∀ j ∈ rem, ∀ o, ops[j]? = some o → b5i P kb o st) →
   a7l P cl kb ops.toList gs rc rem st stF → rem.Pairwise (· < ·) → listed.size = ops.size → (∀ i, i ∈ rem ↔ i < iL ∧ listed.getD i true = false) → (∀ i, iL ≤ i → i < ops.size → listed.getD i true = false) →
   (∀ (i : Nat) (o : Oper), ops[i]? = some o → listed.getD i false = true → ∀ d ∈ a6Z o, listed.getD d false = true) → rem.length + (ops.size - iL) ≤ fuel → wpAnyIn Fence.wide n P .any ops Q fuel listed a w := by
 have hiL : iL ≤ ops.size := hp.last
 have hnil : ∀ (fuel : Nat) {listed : Array Bool} {env : Env} {st : St} {a : Act} {w : World}, Rel P N n0 B M0 w0 F e0 env st a w → a7l P cl kb ops.toList gs rc [] st stF → listed.size = ops.size → (∀ i, i ∈ ([] : List Nat) ↔ i < iL ∧ listed.getD i true = false) → (∀ i, iL ≤ i → i < ops.size → listed.getD i true = false) →
   (ops.size - iL) ≤ fuel → wpAnyIn Fence.wide n P .any ops Q fuel listed a w := by
  intro fuel listed env st a w h hrun hsz hrem hlast hlen
  refine c5q hcl hdr hY hX hdf hF hd hp hQ fuel (h.eq hrun) hk (Nat.le_refl _) hiL hsz (fun i hi => ⟨fun hf => ?_, fun hm => hlast i hm hi⟩) (by omega)
  by_cases hlt : i < iL
  ·have := (hrem i).2 ⟨hlt, hf⟩
   simp at this
  ·omega
 intro fuel
 induction fuel with
 | zero =>
  intro rem listed env st a w h hn hc hrun hpw hsz hrem hlast hclosed hlen
  have hr0 : rem = [] := List.eq_nil_of_length_eq_zero (by omega)
  subst hr0
  exact hnil 0 h hrun hsz hrem hlast (by omega)
 | succ fuel ih =>
  intro rem listed env st a w h hn hc hrun hpw hsz hrem hlast hclosed hlen
  cases hrem0 : rem with
  | nil => subst hrem0; exact hnil (fuel + 1) h hrun hsz hrem hlast (by simpa using hlen)
  | cons x0 rr =>
  have hx0 : x0 ∈ rem := by rw [hrem0]; simp
  refine ⟨fun hready => ?_, fun i hi => ?_⟩
  ·exfalso
   subst hrem0
   have hx := (hrem x0).1 (by simp)
   have hox : ops[x0]? = some (ops[x0]'(by omega)) := Array.getElem?_eq_getElem _
   have : x0 ∈ Region.ready .any ops listed := by
    refine a4N.2 ⟨by omega, hx.2, _, hox, fun d hdd => ?_⟩
    have hlt := a85 hp.topo x0 _ (by simpa using hox) d hdd
    rw [Nat.zero_add] at hlt
    refine c0E hsz (by omega) fun hf => ?_
    have hm := (hrem d).2 ⟨by omega, hf⟩
    rcases f59.1 hm with rfl | hm
    ·omega
    ·have := (List.pairwise_cons.1 hpw).1 d hm; omega
   rw [hready] at this
   simp at this
  ·clear hrem0
   obtain ⟨hi1, hi2, o, ho, hdir⟩ := a4N.1 hi
   have hanc := a5m (L := fun x => listed.getD x false = true) (all := ops.toList) (fun j oj hj hl => hclosed j oj (by simpa using hj) hl) (ops := ops.toList) (pre := []) (tab := []) rfl rfl (fun _ _ hlt => by simp at hlt) i o (by simpa using ho) hdir
   have hilt : i < listed.size := by rw [hsz]; exact hi1
   have hget : ∀ x dflt, (listed.setIfInBounds i true).getD x dflt = if x = i then true else listed.getD x dflt := by
    intro x dflt
    simp only [f56, Array.getElem?_setIfInBounds]
    by_cases hx : x = i
    ·subst hx; simp [hilt]
    ·rw [if_neg (Ne.symm hx), if_neg hx]
   have hi1' : i < iL := by
    by_cases hil : i < iL
    ·exact hil
    ·exfalso
     have hx := (hrem x0).1 hx0
     exact b2p hsz (by omega) hx.2 (hanc x0 (hp.anc i (by omega) hi1 x0 (by omega)))
   have hirem := (hrem i).2 ⟨hi1', hi2⟩
   obtain ⟨A, Bl, hsplit⟩ := List.append_of_mem hirem
   subst hsplit
   obtain ⟨hpA, hpB, hpAB⟩ := List.pairwise_append.1 hpw
   have hltL : ∀ x ∈ A, x < iL := fun x hx => ((hrem x).1 (by simp [hx])).1
   have hnl : ∀ x ∈ A, ¬ listed.getD x false = true := by
    intro x hx
    exact b2p hsz (by have := hltL x hx; omega) ((hrem x).1 (by simp [hx])).2
   have hapA : ∀ x ∈ A, c18 P kb ops.toList rc x i := by
    intro x hx p q hpx hqi
    have hxi : x < i := hpAB x hx i (by simp)
    have hpx' : ops[x]? = some p := by simpa using hpx
    have hqi' : ops[i]? = some q := by simpa using hqi
    have e1 := hp.op x p (hltL x hx) hpx'
    have e2 := hp.op i q hi1' hqi'
    rcases hp.ap x i p q hxi hi1' hpx' hqi' with h1 | ⟨h1, h2⟩
    ·exact absurd (hanc x h1) (hnl x hx)
    ·have := a5n (p := rc x) (q := rc i) (by rw [e1, e2]; exact hp.ff x i p q hxi hpx' hqi') (by rw [e1, e2]; exact h1) h2 (by rw [e2]; exact hp.nn x i q hxi hi1' hqi')
     rw [e1, e2] at this
     exact this
   have hrun' := hrun.front hapA
   obtain ⟨o', ho', hrec, hrest⟩ := hrun'
   have hoo : o' = o := by
    have : ops[i]? = some o' := by simpa using ho'
    rw [ho] at this
    exact (Option.some.inj this).symm
   subst hoo
   have next : ∀ env' a' w', Rel P N n0 B M0 w0 F e0 env' (merge P kb o' (rc i).ks st (rc i).out) a' w' → wpAnyIn Fence.wide n P .any ops Q fuel (listed.setIfInBounds i true) a' w' := by
    intro env' a' w' h'
    refine ih (rem := A ++ Bl) h' (c5k hn) ?_ hrest ?_ (by simpa using hsz) ?_ ?_ ?_ (by simp at hlen ⊢; omega)
    ·intro j hj oj hoj
     have hjr : j ∈ A ++ i :: Bl := by
      rcases List.mem_append.1 hj with hj | hj
      ·simp [hj]
      ·simp [hj]
     have hjL := ((hrem j).1 hjr).1
     have hcj := hc j hjr oj hoj
     rcases List.mem_append.1 hj with hj | hj
     ·have hji : j < i := hpAB j hj i (by simp)
      have hap := hapA j hj oj o' (by simpa using hoj) ho'
      have hapk : a2N P kb (rc i) oj = true := by
       rcases hp.ap j i oj o' hji hi1' hoj ho with h1 | ⟨_, h2⟩
       ·exact absurd (hanc j h1) (hnl j hj)
       ·unfold b0T at h2
        cases hv : a2p P (rc j).o && a2p P (rc i).o with
        | true =>
         rw [hp.op j oj hjL hoj] at hv
         simp only [f5U] at hv
         unfold a2N
         rw [hv.1]
         rfl
        | false =>
         rw [hv, cond_false rfl] at h2
         simp only [f5U] at h2
         rw [← hp.op j oj hjL hoj]
         exact h2.2
      exact a5o (hp.op i o' hi1' ho) hapk hap.symm.ff hcj
     ·have hij : i < j := (List.pairwise_cons.1 hpB).1 j hj
      exact a5o (hp.op i o' hi1' ho) (hp.nn i j oj hij hjL hoj) (a64 (hp.ff i j o' oj hij ho hoj)) hcj
    ·refine List.pairwise_append.2 ⟨hpA, (List.pairwise_cons.1 hpB).2, fun x hx y hy => hpAB x hx y (by simp [hy])⟩
    ·intro x
     rw [hget]
     have hx := hrem x
     constructor
     ·intro hm
      have hxi : x ≠ i := by
       rintro rfl
       rcases List.mem_append.1 hm with hm | hm
       ·have := hpAB x hm x (by simp); omega
       ·have := (List.pairwise_cons.1 hpB).1 x hm; omega
      rw [if_neg hxi]
      refine hx.1 ?_
      rcases List.mem_append.1 hm with hm | hm <;> simp [hm]
     ·rintro ⟨h1, h2⟩
      by_cases hxi : x = i
      ·rw [if_pos hxi] at h2; cases h2
      ·rw [if_neg hxi] at h2
       have := hx.2 ⟨h1, h2⟩
       simp only [List.mem_append, f59] at this ⊢
       rcases this with h3 | h3 | h3
       ·exact .inl h3
       ·exact absurd h3 hxi
       ·exact .inr h3
    ·intro x hx1 hx2
     rw [hget, if_neg (by omega)]
     exact hlast x hx1 hx2
    ·intro x ox hox hl d hdd
     rw [hget] at hl ⊢
     by_cases hdi : d = i
     ·rw [if_pos hdi]
     ·rw [if_neg hdi]
      by_cases hxi : x = i
      ·subst hxi
       rw [ho] at hox
       cases hox
       exact hdir d hdd
      ·rw [if_neg hxi] at hl
       exact hclosed x ox hox hl d hdd
   have hmem : o' ∈ ops.toList := by have := Array.mem_of_getElem? ho; simpa using this
   have hs := c0B (Q := Q) hcl (K := wpAnyIn Fence.wide n P .any ops Q fuel (listed.setIfInBounds i true)) (fun k hk => by
    cases hb : a0I P kb o' k with
    | false => rfl
    | true =>
     have h1 := b8p hb
     have h2 := hF k hk
     omega) h hn (hc i (by simp) o' ho) (hd o' hmem) hrec (b1C (hp.full i hi1')) next
   have hW : a8E Fence.wide := .inl rfl
   unfold wpOpIn
   rw [ho]
   simp only
   split
   ·rename_i hw
    rw [if_pos hw] at hs
    exact b8q hW (.inr (hdf o' hmem)) hs
   ·rename_i hw
    rw [if_neg hw] at hs
    exact ⟨fun f _ => hW.fn f, hs⟩
theorem b5s {R : Type} {cl : a0f} {ops : List Oper} {gs : List Nat} {r : R} : ∀ {l : List Oper} {st : St} {recs : List Rec} {k : St → List Rec → Option R}, a7I P cl kb ops gs l st recs k = some r →
  ∃ rl stF, rl.length = l.length ∧ k stF (recs ++ rl) = some r ∧ ∀ (pre post : List Oper) (rc : Nat → Rec), ops = pre ++ (l ++ post) → (∀ (i : Nat) (p : Rec), rl[i]? = some p → rc (pre.length + i) = p) →
   a7l P cl kb ops gs rc ((List.range l.length).map (pre.length + ·)) st stF ∧ ∀ (i : Nat) (p : Rec) (o : Oper), rl[i]? = some p → l[i]? = some o → p.o = o
 | [], st, recs, k, h => ⟨[], st, rfl, by simpa [a7I] using h, fun _ _ _ _ _ => ⟨c5e.refl _, by simp⟩⟩
 | o :: l, st, recs, k, h => by
  simp only [a7I] at h
  obtain ⟨rec, h1, h2⟩ := c5c h
  obtain ⟨rl, stF, q1, q2, q3⟩ := b5s h2
  refine ⟨rec :: rl, stF, by simp [q1], by simpa using q2, fun pre post rc he hrc => ?_⟩
  obtain ⟨q4, q5⟩ := q3 (pre ++ [o]) post rc (by rw [he]; simp) (fun i p hp => by
   have := hrc (i + 1) p (by simpa using hp)
   rw [← this]; congr 1; simp; omega)
  have hr0 : rc pre.length = rec := hrc 0 rec (by simp)
  constructor
  ·rw [show (o :: l).length = l.length + 1 from rfl, List.range_succ_eq_map, List.map_cons, List.map_map]
   refine ⟨o, by rw [he]; simp, by rw [Nat.add_zero, hr0]; exact h1, ?_⟩
   rw [Nat.add_zero, hr0]
   have : (List.range l.length).map ((pre.length + ·) ∘ Nat.succ) = (List.range l.length).map ((pre ++ [o]).length + ·) := by
    refine List.map_congr_left fun x _ => ?_
    simp; omega
   rw [this]
   exact q4
  ·intro i p o' hp ho
   cases i with
   | zero => simp at hp ho; subst hp ho; exact h1.op
   | succ i => exact q5 i p o' (by simpa using hp) (by simpa using ho)
theorem b9I {R : Type} {cl : a0f} (hm : P.follows .mixedOrders = true) (hcl : a0b P cl) (hdr : a1W P cl) {Y : a2g} (hY : b9H P (a1e kb (some Y.d)) Y) (hF : ∀ k, F k → k < kb) (hX : c7d Y N n0 F B M0 w0 e0) {id : Nat} {ops : Array Oper} {k : St → Option R} {r : R} {Q : Exit → Act → World → Prop}
  (hQ : ∀ a w, a1d P N n0 B M0 w0 F e0 k r a w → Q .normal a w) (h : Rel P N n0 B M0 w0 F e0 env st a w) (hd : ∀ o ∈ ops.toList, ∀ d, o.dst = some d → d < N) (hdf : ∀ o ∈ ops.toList, ∀ c, o.op ≠ .defer c) (hk : c2e P cl kb Y ops.toList st k = some r) : (Code.region id ops true).wpIn Fence.wide n P Q a w := by
 unfold c2e at hk
 obtain ⟨v, hv⟩ : ∃ v, v = a7n ops.toList := ⟨_, rfl⟩
 rw [← hv] at hk
 cases hs : a9I P kb ops.toList && d5h ops.toList v with
 | false => rw [hs] at hk; cases hk
 | true =>
 rw [hs, cond_true rfl] at hk
 rw [f5U] at hs
 obtain ⟨hs, hall⟩ := hs
 obtain ⟨rl, stF, q1, q2, q3⟩ := b5s hk
 rw [List.nil_append] at q2
 cases hdy : d2i P kb ops.toList rl with
 | false => rw [hdy] at q2; cases q2
 | true =>
 rw [hdy, cond_true rfl] at q2
 obtain ⟨iL, hiL⟩ : ∃ iL, iL = (ops.toList.take v).length := ⟨_, rfl⟩
 have hiv : iL ≤ ops.size := by rw [hiL]; simp; omega
 have hdropE : ops.toList.drop v = ops.toList.drop iL := by
  rw [hiL, List.length_take]
  by_cases h1 : v ≤ ops.toList.length
  ·rw [Nat.min_eq_left h1]
  ·rw [Nat.min_eq_right (by omega), List.drop_eq_nil_of_le (by omega), List.drop_eq_nil_of_le (by omega)]
 rw [hdropE] at q2
 let rc : Nat → Rec := fun i => rl.getD i ⟨default, [], ⟨[], []⟩⟩
 have hrc : ∀ (i : Nat) (p : Rec), rl[i]? = some p → rc i = p := by
  intro i p hp
  show rl.getD i _ = p
  rw [f51, hp]
  rfl
 have hl : ∀ (i : Nat), i < iL → rl[i]? = some (rc i) := by
  intro i hi
  have : i < rl.length := by rw [q1, ← hiL]; exact hi
  have h1 := f58 this
  rw [h1, hrc i _ h1]
 have hrun : a7l P cl kb ops.toList (a5x ops.toList ops.toList) rc (List.range iL) (a7b (a9J P kb ops.toList) st) stF ∧ ∀ (i : Nat) (o : Oper), i < iL → ops[i]? = some o → (rc i).o = o := by
  obtain ⟨q4, q5⟩ := q3 [] (ops.toList.drop v) rc (by rw [List.take_append_drop]; rfl) (fun i p hp => by simpa using hrc i p hp)
  have hrange : (List.range (ops.toList.take v).length).map (([] : List Oper).length + ·) = List.range iL := by rw [hiL]; simp
  rw [hrange] at q4
  refine ⟨q4, fun i o hi ho => q5 i (rc i) o (hl i hi) ?_⟩
  have hiv' : i < v := by rw [hiL, List.length_take] at hi; omega
  rw [List.getElem?_take_of_lt hiv']
  simpa using ho
 obtain ⟨q4, hop⟩ := hrun
 have hlt : ∀ (i : Nat) (o : Oper), ops[i]? = some o → i < ops.size := fun i o ho => (f53.1 ho).1
 unfold a9I at hs
 simp only [f5U] at hs
 unfold d2i at hdy
 simp only [f5U] at hdy
 have hst : ∀ (i j : Nat) (p q : Oper), i < j → ops[i]? = some p → ops[j]? = some q → a3I P kb p q = true ∧ (i ∈ (a7a ops.toList []).getD j [] ∨ b7P ops.toList p q = true) := by
  intro i j p q hij hp hq
  have := a4M hs.2 i j p q hij (by simpa using hp) (by simpa using hq)
  simp only [Nat.zero_add, f5U, Bool.or_eq_true, a1J] at this
  exact this
 have hdn : ∀ (i j : Nat), i < j → j < iL → a2N P kb (rc i) (rc j).o = true ∧ (i ∈ (a7a ops.toList []).getD j [] ∨ b0T P kb (rc i) (rc j) = true) := by
  intro i j hij hj
  have := a4M hdy.1 i j (rc i) (rc j) hij (hl i (by omega)) (hl j hj)
  simp only [Nat.zero_add, f5U, Bool.or_eq_true, a1J] at this
  exact this
 have hplan : e5O P cl kb ops (a5x ops.toList ops.toList) iL rc := by
  refine ⟨hs.1, hop, fun i j p q hij hp hq => (hst i j p q hij hp hq).1, ?_, ?_, fun i hi => a86 hdy.2 i (rc i) (hl i hi), hiv, fun j hj1 hj2 i hi => ?_⟩
  ·intro i j q hij hj hq
   have := (hdn i j hij hj).1
   rw [hop j q hj hq] at this
   exact this
  ·intro i j p q hij hj hp hq
   rcases (hst i j p q hij hp hq).2 with h1 | h1
   ·exact .inl h1
   ·exact (hdn i j hij hj).2.imp (fun h => h) fun h2 => ⟨h1, h2⟩
  ·unfold d5h at hall
   have h1 := List.all_eq_true.1 hall j (List.mem_range.2 (by simpa using hj2))
   rw [Bool.or_eq_true] at h1
   rcases h1 with h1 | h1
   ·have h1 : j + 1 ≤ v := f54 h1
    exfalso
    rw [hiL, List.length_take] at hj1
    have : ops.toList.length = ops.size := by simp
    omega
   ·exact a1J.1 (List.all_eq_true.1 h1 i (List.mem_range.2 hi))
 refine wpIn_region_any hm ?_
 refine c5r hcl hdr hY hX hdf hF hd hplan q2 hQ ops.size (rem := List.range iL) (c5i h _ _) (c5j _) ?_ q4 List.pairwise_lt_range (by simp) ?_ ?_ ?_ (by simp; omega)
 ·intro j _ o ho
  refine b5n fun k hk => b5o hk o ?_
  have := Array.mem_of_getElem? ho
  simpa using this
 ·intro i
  simp only [List.mem_range, f56]
  constructor
  ·intro hi; exact ⟨hi, by rw [Array.getElem?_replicate, if_pos (by omega)]; rfl⟩
  ·exact fun hi => hi.1
 ·intro i _ hi
  simp only [f56, Array.getElem?_replicate]
  rw [if_pos hi]; rfl
 ·intro i o ho hl'
  have hi := hlt i o ho
  simp [f56, hi] at hl'
def c7N : Code → Bool
 | .region _ ops _ => ops.toList.all fun o => match o.op with | .defer _ => false | _ => true
 | _ => false
theorem c7O {R : Type} {cl : a0f} (hm : P.follows .mixedOrders = true) (hcl : a0b P cl) (hdr : a1W P cl) {Y : a2g} (hY : b9H P (a1e kb (some Y.d)) Y) (hF : ∀ k, F k → k < kb) (hX : c7d Y N n0 F B M0 w0 e0) {c : Code} (hdf : c7N c = true) {k : Ex → St → Option R} {r : R} (hok : okC N c = true)
  (h : Rel P N n0 B M0 w0 F e0 env st a w) (hk : d5i P cl kb Y c st k = some r) : c.wp P (c7y P N n0 B M0 w0 F e0 k r) a w := by
 unfold d5i at hk
 split at hk
 case h_3 => cases hk
 ·rename_i id ops
  refine (wpIn_wide (n := 0)).1 (wpIn_region_list ?_)
  refine b2o (k := k .normal) hcl hdr hY hF hX (fun a w hp => hp) h (c13 hok) (fun o ho c hc => ?_) hk
  have := List.all_eq_true.1 hdf o ho
  rw [hc] at this
  cases this
 ·rename_i id ops
  refine (wpIn_wide (n := 0)).1 ?_
  refine b9I (k := k .normal) hm hcl hdr hY hF hX (fun a w hp => hp) h (c13 hok) (fun o ho c hc => ?_) hk
  have := List.all_eq_true.1 hdf o ho
  rw [hc] at this
  cases this
theorem c5s {cl : a0f} (hm : P.follows .mixedOrders = true) (hcl : a0b P cl) (hdr : a1W P cl) {Y : a2g} (hY : b9H P (a1e kb (some Y.d)) Y) {c : Code} (hdf : c7N c = true) {f : St → Option (List (Bool × (Ex × St)))} (ts ks : List Nat)
  (h : ∀ st alts, f st = some alts → ∀ x, a5f alts some = some x → d5i P cl kb Y c st (fun e st => some (e, a60 ts ks st)) = some x) : a7j P kb c f (c7d Y) := by
 intro st alts hst x hx N n0 F B M0 w0 e0 env a w hX hF hok hrel
 rintro Fe nn rfl
 refine wpIn_wide.2 (Code.wp_mono ?_ (c7O hm hcl hdr hY hF hX hdf hok hrel (h st alts hst x hx)))
 intro e a' w' hp
 cases e with
 | normal => obtain ⟨env', st', h1, h2⟩ := hp; exact ⟨env', _, a1S h1 ts ks, h2⟩
 | exit i => obtain ⟨env', st', h1, h2⟩ := hp; exact ⟨env', _, a1S h1 ts ks, h2⟩
 | ret => obtain ⟨env', st', h1, h2⟩ := hp; exact ⟨env', _, a1S h1 ts ks, h2⟩
 | _ => exact hp.elim
end
end Go.AM

namespace Go.AM
open Go

def d5m (n : Nat) (mem : AL Obj) : Bool := mem.all fun x => (a1A x.2).all fun k => Nat.blt k n
def b8z (kb : Nat) : Nat := kb + 1000000000000000
def e5P {R : Type} (kb : Nat) (acc : List Ref) (mem2 : AL Obj) (st : St) (k : St → Option R) : Option R :=
 bif a5H ([], mem2) && a8L mem2 (a1V acc.length (b8z kb) mem2) acc 0 then (match a5G acc (b8z kb) mem2 acc 0 (a2L (a1V acc.length (b8z kb) mem2) st).mem with
  | none => none
  | some m => k { tmps := (a2L (a1V acc.length (b8z kb) mem2) st).tmps, mem := a8J acc (b8z kb) mem2 m }) else none
def c97 (ts : List Nat) (st : St) (caps : List (Nat × Nat)) : List V := caps.map (fun x => V.c (.p x.1 x.2)) ++ ts.map fun t => evu st (.tmp t)
def a2g.at_ (Y : a2g) (ts : List Nat) (xs : List V) : a2g := { Y with tm := ts.zip xs }
def rfK {R : Type} (P : Program) (Y : a2g) (ts : List Nat) (sp : a2g → List V → AL Obj → Option (List (Bool × Res))) (fnid : FuncId) (e : TypeId) (kb : Nat) (g : Operand) (st : St) (k : St → Option R) : Option R :=
 match evu st g with
 | .c (.f fn caps) => (match a6X st.mem 300 (c1G P [] (c97 ts st caps)) [] with
  | none => none
  | some acc => match d2c acc (c97 ts st caps), b0S st.mem acc acc 0 with
   | some args', some mem' => bif Nat.beq fn fnid && Nat.beq acc.length Y.ky && args'.all (tmB Y.ky) && Nat.beq (a0d P e) (kinds P e).length && d5m Y.ky mem' && !a2h fn caps then
    (match sp (Y.at_ ts (args'.drop caps.length)) (.c (.y Y.ky) :: args'.take caps.length) (mem' ++ [(Y.ky, .row e true true [])]) with
    | none => none
    | some alts => a5f alts fun r => e5P kb acc (del r.2 Y.ky) st k) else none
   | _, _ => none)
 | _ => none
def rfC {R : Type} (P : Program) (Y : a2g) (ts : List Nat) (sp : a2g → List V → AL Obj → Option (List (Bool × Res))) (fnid : FuncId) (e : TypeId) (kb : Nat) (c : Code) (st : St) (k : Ex → St → Option R) : Option R :=
 match c with
 | .rangeFunc g _ _ _ => rfK P Y ts sp fnid e kb g st (k .normal)
 | _ => none
def rfY (c : Code) (tm : List (Nat × V)) (ky d : Nat) (hs : b0U := {}) : a2g :=
 match c with
 | .rangeFunc _ ps a b => { ps := ps.toList, ca := a, cb := b, tm, ky, d, hs }
 | _ => { ps := [], ca := .skip, cb := .skip, tm, ky, d, hs }
def e5Q (Y : a2g) (P : Program) (f : FuncId) (sp : a2g → List V → AL Obj → Option (List (Bool × Res))) : Prop := ∀ tm args mem alts, sp { Y with tm } args mem = some alts → ∀ res, a5f alts some = some res → c7C (c7d { Y with tm }) P f args mem res
theorem b6l {α : Type} {ky k : Nat} {o : α} : ∀ {l : AL α}, (∀ k x, get l k = some x → k < ky) → get (l ++ [(ky, o)]) k = if k = ky then some o else get l k
 | [], _ => by
  show get [(ky, o)] k = _
  simp only [get, a0v]
  by_cases h : ky = k
  ·subst h; simp
  ·simp [h, Ne.symm h]
 | (j, x) :: r, h => by
  show get ((j, x) :: (r ++ [(ky, o)])) k = _
  simp only [get, a0v]
  by_cases hj : j = k
  ·subst hj
   have := h j x (by simp [get, a0v])
   rw [if_neg (by omega), AM.cond_true (by simp), AM.cond_true (by simp)]
  ·rw [AM.cond_false (by simpa using hj), AM.cond_false (by simpa using hj)]
   refine b6l fun i y hi => ?_
   by_cases hji : j = i
   ·subst hji; exact h j x (by simp [get, a0v])
   ·exact h i y (by simp only [get, a0v]; rw [AM.cond_false (by simpa using hji)]; exact hi)
section
variable {P : Program} {N n0 kb n : Nat} {F : Nat → Prop} {B M0 : a0Q} {w0 : World} {e0 : b0H} {env : Env} {st : St} {a : Act} {w : World}
theorem a9a {mem : AL Obj} {ky : Nat} {e : TypeId} {s : a3R} (hkeys : ∀ k o, get mem k = some o → k < ky) : a5M P (upd env ky s) (mem ++ [(ky, .row e true true [])]) = a5M P env mem := by
 funext b o
 refine propext ⟨fun ⟨k, ob, g, m⟩ => ?_, fun ⟨k, ob, g, m⟩ => ?_⟩
 ·rw [b6l hkeys] at g
  by_cases hk : k = ky
  ·rw [if_pos hk] at g
   cases g
   cases m.1
  ·rw [if_neg hk] at g
   exact ⟨k, ob, g, by simpa [upd, hk] using m⟩
 ·have hk := hkeys k ob g
  exact ⟨k, ob, by rw [b6l hkeys, if_neg (by omega)]; exact g, by simpa [upd, Nat.ne_of_lt hk] using m⟩
theorem e0W {mem : AL Obj} {ky : Nat} {e : TypeId} {s : a3R} (hlen : mem.length = ky) (hlow : d5m ky mem = true) (hsz : a0d P e = (kinds P e).length) (hs : s.head = none) (h : b4o P B env mem w) :
  b4o P B (upd env ky s) (mem ++ [(ky, .row e true true [])]) w := by
 have hkeys : ∀ k o, get mem k = some o → k < ky := fun k o hg => by have := h.key k o hg; omega
 have M := h.rel
 have hget : ∀ {k ob}, get (mem ++ [(ky, Obj.row e true true [])]) k = some ob → (k = ky ∧ ob = .row e true true []) ∨ (k ≠ ky ∧ get mem k = some ob) := by
  intro k ob hg
  rw [b6l hkeys] at hg
  by_cases hk : k = ky
  ·rw [if_pos hk] at hg; exact .inl ⟨hk, (Option.some.inj hg).symm⟩
  ·rw [if_neg hk] at hg; exact .inr ⟨hk, hg⟩
 have heq : ∀ k, k ≠ ky → upd env ky s k = env k := fun k hk => by simp [upd, hk]
 have hk : a0O w (Sof P B (a5M P env mem) w.heap.size env mem w) w (Sof P B (a5M P env mem) w.heap.size (upd env ky s) (mem ++ [(ky, .row e true true [])]) w) := fun b o v hS hv => by
  refine ⟨⟨hS.1, hS.2.1, fun k ob hg hm => ?_⟩, hv⟩
  rcases hget hg with ⟨_, rfl⟩ | ⟨q1, q2⟩
  ·cases hm.1
  ·rw [heq k q1] at hm; exact hS.2.2 k ob q2 hm
 refine ⟨⟨rfl, fun key o hg => ?_, fun k k' o o' hg hg' hr hr' hne => ?_, fun key o b x hg hm => .inl ⟨key, o, hg, hm⟩, fun key e' ex xs hg o ho => ?_, Chg.refl _ w, M.bb, fun _ _ => rfl, by rw [a9a hkeys]; exact M.gi⟩, fun k o hg => ?_⟩
 ·rw [a9a hkeys]
  rcases hget hg with ⟨rfl, rfl⟩ | ⟨q1, q2⟩
  ·exact ⟨hsz, .inl ⟨rfl, rfl, by simp [upd, a3R.hdr, hs]⟩⟩
  ·rw [heq key q1]
   refine b8t hk (fun k' hk' => heq k' ?_) (fun _ => rfl) (M.ob key o q2)
   have := List.all_eq_true.1 (List.all_eq_true.1 hlow _ (a5O q2)) k' hk'
   have := f54 this
   omega
 ·rcases hget hg with ⟨rfl, rfl⟩ | ⟨q1, q2⟩
  ·cases hr
  ·rcases hget hg' with ⟨rfl, rfl⟩ | ⟨q1', q2'⟩
   ·cases hr'
   ·rw [heq k q1, heq k' q1']
    exact M.ds k k' o o' q2 q2' hr hr' hne
 ·rw [a9a hkeys]
  rcases hget hg with ⟨rfl, q⟩ | ⟨q1, q2⟩
  ·cases q
  ·rw [heq key q1]; exact M.pr key e' ex xs q2 o ho
 ·rw [List.length_append, hlen]
  rcases hget hg with ⟨rfl, rfl⟩ | ⟨_, q2⟩
  ·simp
  ·have := hkeys k o q2; simp; omega
theorem c5t {mem : AL Obj} {ky : Nat} {e : TypeId} {s : a3R} {res : Res} {v : Value} {w' : World} (hlen : mem.length = ky) (hkeys : ∀ k o, get mem k = some o → k < ky)
  (h : a9Q P B (upd env ky s) (mem ++ [(ky, .row e true true [])]) w res v w') : a9Q P B env mem w ([], del res.2 ky) (.tuple #[]) w' := by
 obtain ⟨env1, M, _⟩ := h
 rw [a9a hkeys] at M
 have hk : a0O w' (Sof P B (a5M P env mem) w.heap.size env1 res.2 w') w' (Sof P B (a5M P env mem) w.heap.size env1 (del res.2 ky) w') := fun b o v hS hv =>
  ⟨⟨hS.1, hS.2.1, fun k ob hg hm => hS.2.2 k ob (a0S k ob hg).2 hm⟩, hv⟩
 refine ⟨env1, ⟨M.hn0, fun key o hg => a1H hk (fun _ => rfl) (M.ob key o (a0S key o hg).2), fun k k' o o' hg hg' => M.ds k k' o o' (a0S k o hg).2 (a0S k' o' hg').2,
  fun key o b x hg => M.mu key o b x (a0S key o hg).2, fun key e' ex xs hg => M.pr key e' ex xs (a0S key _ hg).2, M.ch, M.bb, fun k hk => ?_, M.gi⟩, ⟨#[], rfl, trivial⟩⟩
 have hk' : k < ky := by rw [← hlen]; exact hk
 rw [M.fx k (by rw [List.length_append, hlen]; simp; omega)]
 simp [upd, Nat.ne_of_lt hk']
theorem e0X {R : Type} {Y : a2g} {ts : List Nat} {sp : a2g → List V → AL Obj → Option (List (Bool × Res))} {fnid : FuncId} (hent : a8Y P fnid) (hsp : e5Q Y P fnid sp) {e : TypeId} {g : Operand} {k : Ex → St → Option R} {r : R}
  (hF : ∀ k, F k → k < kb) (hok : okC N (.rangeFunc g Y.ps.toArray Y.ca Y.cb) = true) (h : Rel P N n0 B M0 w0 F e0 env st a w)
  (hk : rfK P Y ts sp fnid e kb g st (k .normal) = some r) : (Code.rangeFunc g Y.ps.toArray Y.ca Y.cb).wp P (c7y P N n0 B M0 w0 F e0 k r) a w := by
 unfold rfK at hk
 split at hk
 case h_2 => cases hk
 rename_i fn caps hev
 split at hk
 ·cases hk
 rename_i acc hacc
 have hnd := a3Y (acc := []) trivial hacc
 split at hk
 case h_2 => cases hk
 rename_i args' mem' hren hh
 cases hc0 : Nat.beq fn fnid && Nat.beq acc.length Y.ky && args'.all (tmB Y.ky) && Nat.beq (a0d P e) (kinds P e).length && d5m Y.ky mem' && !a2h fn caps with
 | false => rw [hc0] at hk; cases hk
 | true =>
 rw [hc0] at hk
 simp only [f5U] at hc0
 obtain ⟨⟨⟨⟨⟨c1, c2⟩, c3⟩, c5⟩, c6⟩, c7⟩ := hc0
 have c1 := f5T c1
 have c2 := f5T c2
 have c5 := f5T c5
 subst c1
 simp only [AM.cond_true rfl] at hk
 split at hk
 ·cases hk
 rename_i alts halts
 rw [a7h] at hk
 cases hres : a5f alts some with
 | none => rw [hres] at hk; cases hk
 | some res =>
 rw [hres] at hk
 have hk : e5P kb acc (del res.2 Y.ky) st (k .normal) = some r := hk
 have hcall := hsp _ _ _ _ halts res hres
 have hgv : a.eval g = .func (.func fn) #[] (caps.map (b5M env)).toArray := by
  have h1 := h.evu g
  rw [hev] at h1
  have h1 : a.eval g = fnW (a2h fn caps) fn (caps.map (b5M env)) := h1
  rw [show a2h fn caps = false by simpa using c7] at h1
  exact h1
 -- the record
 obtain ⟨l, hl⟩ : ∃ l, l = w.heap.size + 1 := ⟨_, rfl⟩
 refine (wpIn_wide (n := 0)).1 (wpIn_rangeFunc fun fr _ => ?_)
 obtain ⟨rc, hrc⟩ : ∃ rc : Loop, rc = { state := .ready, pending := none, fn := fr, tmps := a.tmps, params := Y.ps.toArray, assign := Y.ca, body := Y.cb, defers := w.heap.size } := ⟨_, rfl⟩
 obtain ⟨W1, hW1⟩ : ∃ W1, W1 = (w.alloc (.deferred (some []))).alloc (.loop rc) := ⟨_, rfl⟩
 have hrun := run_enterLoop_outer (P := P) (w := w) fr a.tmps Y.ps.toArray Y.ca Y.cb
 rw [← hrc, ← hW1, ← hl] at hrun
 have hL1 : W1.heap[l]? = some (.loop rc) := by
  rw [hW1, hl]; have := World.alloc_heap_new (w.alloc (.deferred (some []))) (.loop rc); rwa [World.size_alloc] at this
 have hD1 : W1.heap[w.heap.size]? = some (.deferred (some [])) := by
  rw [hW1]; exact ((World.grownBy_alloc (w.alloc (.deferred (some []))) (.loop rc) none).block _ (by simp) (fun e => by cases e)).trans (World.alloc_heap_new w _)
 have hR1 : Rel P N n0 B M0 w0 F e0 env st a W1 := by
  rw [hW1]
  exact (h.alien (World.grownBy_alloc w _ none) (fun r e => by cases e) (fun r e => by cases e)).alien (World.grownBy_alloc _ _ none) (fun r e => by cases e) (fun r e => by cases e)
 have hgr : ∀ b : Nat, b < w.heap.size → W1.heap[b]? = w.heap[b]? := fun b hb => by
  rw [hW1]
  exact ((World.grownBy_alloc (w.alloc (.deferred (some []))) (.loop rc) none).block b (by simp; omega) (fun e => by cases e)).trans ((World.grownBy_alloc w (.deferred (some [])) none).block b hb (fun e => by cases e))
 have hoffL := Off.other hR1 hL1 (fun _ _ _ e => by cases e) (fun _ _ e => by cases e)
 obtain ⟨hpre0, hkeep⟩ := c9U hR1 hnd hh
 obtain ⟨g1, g2, g3⟩ := a7g hh
 have hlen : mem'.length = Y.ky := by rw [g2, c2]
 have hkeys : ∀ k o, get mem' k = some o → k < Y.ky := fun k o hg => by have := hpre0.key k o hg; omega
 have hpre := e0W (e := e) (s := ⟨l, 0, none⟩) hlen c6 c5 rfl hpre0
 have hmut : ∀ b o, a5M P (b5b acc env) mem' b o → ∀ ob, W1.heap[b]? = some ob → (∃ c T f, ob = .cells c T f) ∨ ∃ x y, ob = .map x y := by
  rintro b o ⟨k, ob, q1, q2⟩ gob hb
  obtain ⟨r', o', e1, e2, e3⟩ := e0h hh q1 q2
  have ho := hR1.ob _ _ e2
  obtain ⟨e4, e5⟩ := a2A e3
  rw [e5] at hb
  cases o' with
  | box cs => obtain ⟨cur, T, q, _⟩ := ho; rw [hb] at q; exact .inl ⟨_, _, _, Option.some.inj q⟩
  | row e ex nl xs =>
   obtain ⟨_, ⟨q, _⟩ | ⟨_, _, cap, cur, _, ⟨fr, _, q⟩, _⟩⟩ := ho
   ·rw [show nl = false from e4] at q; cases q
   ·rw [hb] at q; exact .inl ⟨_, _, _, Option.some.inj q⟩
  | map kt vt es => obtain ⟨ents, clock, q, _⟩ := ho; rw [hb] at q; exact .inr ⟨_, _, Option.some.inj q⟩
  | tab kt vt es => obtain ⟨ents, clock, q, _⟩ := ho; rw [hb] at q; exact .inr ⟨_, _, Option.some.inj q⟩
  | dat T d => obtain ⟨_, cur, E, q, _⟩ := ho; rw [hb] at q; exact .inl ⟨_, _, _, Option.some.inj q⟩
 -- the arguments
 have hall : a0B (a0G P env (Sof P B M0 n0 env st.mem W1) W1) (c97 ts st caps) (caps.map (b5M env) ++ ts.map fun t => a.tmps.getD t undef) := by
  unfold c97
  refine a0B.append ?_ ?_
  ·refine .of_get (by simp) fun j x y hx hy => ?_
   rw [List.getElem?_map] at hx hy
   obtain ⟨c, q1, rfl⟩ := Option.map_eq_some_iff.1 hx
   rw [q1] at hy
   cases hy
   exact rfl
  ·refine .of_get (by simp) fun j x y hx hy => ?_
   rw [List.getElem?_map] at hx hy
   obtain ⟨c, q1, rfl⟩ := Option.map_eq_some_iff.1 hx
   rw [q1] at hy
   cases hy
   exact hR1.evu (.tmp c)
 have hall' := b1r hkeep hren hall
 have hlena := hall'.length
 simp only [List.length_append, List.length_map] at hlena
 have hdropv : (caps.map (b5M env) ++ ts.map fun t => a.tmps.getD t undef).drop caps.length = ts.map fun t => a.tmps.getD t undef := by
  exact List.drop_left' (by simp)
 have htakev : (caps.map (b5M env) ++ ts.map fun t => a.tmps.getD t undef).take caps.length = caps.map (b5M env) := by
  exact List.take_left' (by simp)
 have hdr := hall'.drop caps.length
 have htk := hall'.take caps.length
 rw [hdropv] at hdr
 rw [htakev] at htk
 obtain ⟨E2, hE2⟩ : ∃ E2 : Env, E2 = upd (b5b acc env) Y.ky ⟨l, 0, none⟩ := ⟨_, rfl⟩
 have hE2ne : ∀ k, k ≠ Y.ky → E2 k = b5b acc env k := fun k hk => by rw [hE2]; simp [upd, hk]
 have hE2ky : E2 Y.ky = ⟨l, 0, none⟩ := by rw [hE2]; simp [upd]
 rw [← hE2] at hpre
 have hM2 : a5M P E2 (mem' ++ [(Y.ky, .row e true true [])]) = a5M P (b5b acc env) mem' := by rw [hE2]; exact a9a hkeys
 have hargs : a0B (a0G P E2 (Sof P (Sof P B M0 n0 env st.mem W1) (a5M P E2 (mem' ++ [(Y.ky, .row e true true [])])) W1.heap.size E2 (mem' ++ [(Y.ky, .row e true true [])]) W1) W1) (.c (.y Y.ky) :: args'.take caps.length) (#[Value.func (.yield l) #[] #[]] ++ (caps.map (b5M env)).toArray).toList := by
  have hto : (#[Value.func (.yield l) #[] #[]] ++ (caps.map (b5M env)).toArray).toList = Value.func (.yield l) #[] #[] :: caps.map (b5M env) := by simp
  rw [hto]
  refine ⟨?_, htk.mono fun x v hx hxv => ?_⟩
  ·show _ = _
   rw [hE2ky]
  ·have hp := List.all_eq_true.1 c3 x (List.mem_of_mem_take hx)
   match x, hp, hxv with
   | .c (.p i o), hp, hxv =>
    have hp : i + 1 ≤ Y.ky := f54 hp
    have hxv : v = .pointer (some ⟨(b5b acc env i).blk, (b5b acc env i).base + o, none⟩) := hxv
    show v = .pointer (some ⟨(E2 i).blk, (E2 i).base + o, none⟩)
    rw [hE2ne i (by omega)]
    exact hxv
   | .c (.i k n), _, hxv => exact hxv
   | .c (.b b), _, hxv => exact hxv
   | .c (.k b), _, hxv => exact hxv
   | .c (.s l), _, hxv => exact hxv
 have hX : ∀ N', c7d (Y.at_ ts (args'.drop caps.length)) N' W1.heap.size (· < (mem' ++ [(Y.ky, Obj.row e true true [])]).length) (Sof P B M0 n0 env st.mem W1) (a5M P E2 (mem' ++ [(Y.ky, .row e true true [])])) W1 E2 := by
  intro N'
  have hlt : (mem' ++ [(Y.ky, Obj.row e true true [])]).length = Y.ky + 1 := by simp [hlen]
  simp only [okC, f5U] at hok
  refine ⟨by show Y.ky < _; rw [hlt]; omega, fun o hm => ?_, rc, ?_, by rw [hrc], by rw [hrc], by rw [hrc]; rfl, by rw [hrc]; rfl, by rw [hrc]; rfl, ?_, ?_, fun p hp => ?_, fun t ht => ?_⟩
  ·rw [hM2] at hm
   have hm : a5M P (b5b acc env) mem' (E2 Y.ky).blk o := hm
   rw [hE2ky] at hm
   rcases hmut _ _ hm _ hL1 with ⟨_, _, _, q⟩ | ⟨_, _, q⟩ <;> cases q
  ·show W1.heap[(E2 Y.ky).blk]? = _
   rw [hE2ky]; exact hL1
  ·rw [hrc]; show okC a.tmps.size _ = true; rw [h.size]; exact hok.1.1
  ·rw [hrc]; show okC a.tmps.size _ = true; rw [h.size]; exact hok.1.2
  ·rw [hrc]; show p < a.tmps.size; rw [h.size]
   have hp : p ∈ Y.ps := hp
   exact f54 (List.all_eq_true.1 hok.2 p (by simpa using hp))
  ·obtain ⟨j, hj⟩ := List.getElem?_of_mem ht
   have hj : (ts.zip (args'.drop caps.length))[j]? = some t := hj
   rw [List.getElem?_zip_eq_some] at hj
   obtain ⟨hj1, hj2⟩ := hj
   have hv := hdr.get2 (y := a.tmps.getD t.1 undef) hj2 (by rw [List.getElem?_map, hj1]; rfl)
   have hp := List.all_eq_true.1 c3 t.2 (List.mem_of_mem_drop (List.mem_of_getElem? hj2))
   rw [hrc]
   show e5N _ E2 t.2 (a.tmps.getD t.1 undef)
   generalize a.tmps.getD t.1 undef = v at hv
   generalize t.2 = x at hv hp
   match x, hp, hv with
   | .c (.p i o), hp, hv =>
    have hp : i + 1 ≤ Y.ky := f54 hp
    have hv : v = .pointer (some ⟨(b5b acc env i).blk, (b5b acc env i).base + o, none⟩) := hv
    refine ⟨by show i < _; rw [hlt]; omega, ?_⟩
    rw [hE2ne i (by omega)]
    exact hv
   | .c (.i k n), _, hv => exact hv
   | .c (.b b), _, hv => exact hv
   | .c (.k b), _, hv => exact hv
   | .c (.s l), _, hv => exact hv
 have hC := hcall _ E2 W1 _ hX hpre hargs
 refine ⟨l, [mkD w.heap.size], W1, { target := .fn (.func fn) (caps.map (b5M env)).toArray, args := #[.func (.yield l) #[] #[]] }, W1, fn, #[.func (.yield l) #[] #[]] ++ (caps.map (b5M env)).toArray, W1, hrun, ?_, fun f' _ => trivial, ?_, fun hd => Bool.noConfusion hd, ?_⟩
 ·simp only [resolve, hgv]
  simp [go_sem]
 ·simp only [invoke]
  exact a81 hent
 refine callsIn_wide.2 (Calls.mono hC ?_)
 rintro en w2 ⟨v, rfl, hp⟩
 rw [hE2] at hp
 have hp' := c5t hlen hkeys hp
 obtain ⟨env1, M1, _⟩ := hp'
 have hL2 : w2.heap[l]? = some (.loop rc) := M1.ch.other l _ hL1 fun o hm => by rcases hmut _ _ hm _ hL1 with ⟨_, _, _, q⟩ | ⟨_, _, q⟩ <;> cases q
 have hkeepD : ∀ b : Nat, W1.heap[b]? = some (.deferred (some [])) → w2.heap[b]? = some (.deferred (some [])) := fun b hb => M1.ch.other b _ hb fun o hm => by rcases hmut _ _ hm _ hb with ⟨_, _, _, q⟩ | ⟨_, _, q⟩ <;> cases q
 unfold e5P at hk
 cases hc1 : a5H ([], del res.2 Y.ky) && a8L (del res.2 Y.ky) (a1V acc.length (b8z kb) (del res.2 Y.ky)) acc 0 with
 | false => rw [hc1] at hk; cases hk
 | true =>
 rw [hc1] at hk
 simp only [AM.cond_true rfl] at hk
 rw [f5U] at hc1
 split at hk
 ·cases hk
 rename_i m2 hm2
 obtain ⟨env2, q1, _⟩ := c4Z hR1 hnd hh (res := ([], del res.2 Y.ky)) (c5t hlen hkeys hp) (fun k hk hf => by have := c0w hk; have := hF k hf; unfold b8z at *; omega) rfl hc1.1 hc1.2 hm2
 have hend := run_endLoop (P := P) hL2 (by rw [hrc]; simp)
 have hpe : rc.pending = none := by rw [hrc]
 obtain ⟨W4, hW4⟩ : ∃ W4, W4 = w2.putObj l (.loop { rc with state := .exhausted }) := ⟨_, rfl⟩
 rw [← hW4, hpe] at hend
 refine ⟨none, W4, hend, ?_⟩
 have hn0 := h.n0le
 have hne : ∀ b : Nat, W1.heap[b]? = some (.deferred (some [])) → b ≠ l := fun b hb e => by subst e; rw [hL1] at hb; cases hb
 obtain ⟨ns, d1, d2, d3⟩ := h.dfr
 have hmk : a2K n0 (w2.putObj l (.loop { rc with state := .exhausted })) e0.D a.defers := by
  refine ⟨ns, d1, fun b hb => ⟨(d2 b hb).1, ?_⟩, d3⟩
  have hb1 := (d2 b hb).2
  have hb2 : W1.heap[b]? = some (.deferred (some [])) := (hgr b (f53.1 hb1).1).trans hb1
  rw [World.putObj_heap_other (hne b hb2)]
  exact hkeepD b hb2
 have hq := q1.alienM (a89 (b := l) (o := .loop { rc with state := .exhausted })) hmk (fun r e => by
  cases e
  exact ⟨.inl (by omega), (fun c T f e => by rw [hL2] at e; cases e), Off.other q1 hL2 (fun _ _ _ e => by cases e) (fun _ _ e => by cases e)⟩)
 rw [← hW4] at hq
 refine ⟨env2, _, ⟨hq.size, ?_, hq.hn0, hq.tm, hq.ob, hq.ds, hq.mu, hq.pr, hq.ch, hq.bb, hq.fx, hq.gi⟩, hk⟩
 refine ⟨w.heap.size :: ns, by rw [d1]; rfl, fun b hb => ?_, ?_⟩
 ·rcases f59.1 hb with rfl | hb
  ·refine ⟨hn0, ?_⟩
   rw [hW4, World.putObj_heap_other (hne _ hD1)]
   exact hkeepD _ hD1
  ·refine ⟨(d2 b hb).1, ?_⟩
   have hb1 := (d2 b hb).2
   have hb2 : W1.heap[b]? = some (.deferred (some [])) := (hgr b (f53.1 hb1).1).trans hb1
   rw [hW4, World.putObj_heap_other (hne b hb2)]
   exact hkeepD b hb2
 ·refine List.nodup_cons.2 ⟨fun hm => ?_, d3⟩
  have := (f53.1 (d2 _ hm).2).1
  omega
theorem d5n {Y : a2g} {ts : List Nat} {sp : a2g → List V → AL Obj → Option (List (Bool × Res))} {fnid : FuncId} (hent : a8Y P fnid) (hsp : e5Q Y P fnid sp) {e : TypeId} {g : Operand} {c : Code} {X : Ctx} (hcode : c = .rangeFunc g Y.ps.toArray Y.ca Y.cb)
  {f : St → Option (List (Bool × (Ex × St)))} (tx kx : List Nat) (h : ∀ st alts, f st = some alts → ∀ x, a5f alts some = some x → rfC P Y ts sp fnid e kb c st (fun e st => some (e, a60 tx kx st)) = some x) : a7j P kb c f X := by
 intro st alts hst x hx N n0 F B M0 w0 e0 env a w _ hF hok hrel
 rintro Fe nn rfl
 have hr := h st alts hst x hx
 subst hcode
 refine wpIn_wide.2 (Code.wp_mono ?_ (e0X hent hsp (k := fun e st => some (e, a60 tx kx st)) hF hok hrel hr))
 intro e a' w' hp
 cases e with
 | normal => obtain ⟨env', st', h1, h2⟩ := hp; exact ⟨env', _, a1S h1 tx kx, h2⟩
 | exit i => obtain ⟨env', st', h1, h2⟩ := hp; exact ⟨env', _, a1S h1 tx kx, h2⟩
 | ret => obtain ⟨env', st', h1, h2⟩ := hp; exact ⟨env', _, a1S h1 tx kx, h2⟩
 | _ => exact hp.elim
end
def spY (na : Nat) (sh : Sh) (A : List Lf → List (Bool × Res)) (Y : a2g) (args : List V) (mem : AL Obj) : Option (List (Bool × Res)) :=
 bif Nat.beq args.length na then d5d sh A ⟨params 0 args ++ Y.tm, mem⟩ else none
def c98 (na : Nat) (tm : AL V) : List V := a5P (tm.take na)
def e5R (Y : a2g) (P : Program) (f : FuncId) (na : Nat) (sh : Sh) (A : List Lf → List (Bool × Res)) : Prop := e5Q Y P f (spY na sh A)
def bdY (P : Program) (cl : a0f) (h : b0U) (f : FuncId) (na : Nat) (sh : Sh) (L : List Lf) : Option Res := body P cl h 200 f (c98 na (a0p sh L).tmps) (a0p sh L).mem
theorem Sg.fnY {Y : a2g} {P : Program} {cl : a0f} {kb f na : Nat} {sh : Sh} {A : List Lf → List (Bool × Res)} (Yf : List Lf → a2g) (s : ∀ L, Sg P kb f (c7d (Yf L))) (hY : ∀ L, { Y with tm := (a0p sh L).tmps.drop na } = Yf L)
  (hP : a6B P) (hcl : a0b P cl) (h : ∀ L x, a5f (A L) some = some x → bdY P cl (s L).h f na sh L = some x) (hk : ∀ L, (a0p sh L).mem.length = kb := by intro L; rfl) : e5R Y P f na sh A := by
 intro tm args mem alts ha res hr
 unfold spY at ha
 cases hl : Nat.beq args.length na with
 | false => rw [hl] at ha; cases ha
 | true =>
 rw [hl] at ha
 have hl := f5T hl
 simp only [AM.cond_true rfl] at ha
 have hpl : (params 0 args).length = na := by
  rw [← hl]
  have : ∀ (i : Nat) (xs : List V), (params i xs).length = xs.length := by
   intro i xs
   induction xs generalizing i with
   | nil => rfl
   | cons x xs ih => simp [params, ih]
  exact this 0 args
 have := b2l (Q := fun st x => c7C (c7d { Y with tm := st.tmps.drop na }) P f (c98 na st.tmps) st.mem x) (fun L x hx => by
  have hb := h L x hx
  have hs := (s L).ok
  have hkL := hk L
  subst hkL
  have := (b1A hP hcl (a87 hP.mixed hcl) hs.loops hb).1
  rw [hY L]
  exact this) ⟨params 0 args ++ tm, mem⟩ alts ha res hr
 have e1 : (params 0 args ++ tm).drop na = tm := List.drop_left' hpl
 have e2 : c98 na (params 0 args ++ tm) = args := by
  unfold c98
  rw [List.take_left' hpl]
  exact a7U 0 args
 simp only [e1, e2] at this
 exact this
def pcY (P : Program) (cl : a0f) (kb : Nat) (Y : a2g) (f id : Nat) (sh : Sh) (L : List Lf) (a b : List Nat) : Option (Ex × St) := d5i P cl kb Y (a2V P f id) (a0p sh L) (fun e st => some (e, a60 a b st))
def Sg.cutY {P : Program} {cl : a0f} {kb f : Nat} {Y : a2g} (s : Sg P kb f (c7d Y)) {id : Nat} {a b : List Nat} {sh : Sh} (A : List Lf → List (Bool × (Ex × St))) (hP : a6B P) (hcl : a0b P cl) (hY : b9H P (a1e kb (some Y.d)) Y) (h : ∀ L x, a5f (A L) some = some x → pcY P cl kb Y f id sh L a b = some x)
  (h1 : c90 P f id = true := by kernel_rfl) (hdf : c7N (a2V P f id) = true := by kernel_rfl) : Sg P kb f (c7d Y) :=
 ⟨{ s.h with los := (id, d5d sh A) :: s.h.los }, a1o.cons s.ok h1 (c5s hP.mixed hcl (a87 hP.mixed hcl) hY hdf a b (b2l (Q := fun st x => d5i P cl kb Y (a2V P f id) st (fun e st => some (e, a60 a b st)) = some x) h))⟩
theorem e9y {P : Program} {kb : Nat} {Y : a2g} (hs : Y.hs = {}) (ha : a03 Y.ca = true := by kernel_rfl) (hb : a03 Y.cb = true := by kernel_rfl) : b9H P kb Y := by
 refine ⟨ha, hb, fun b _ id f hl => ?_⟩
 rw [hs] at hl
 unfold b7Q at hl
 split at hl
 ·cases hl
 ·cases hl
def pcR (P : Program) (Y : a2g) (ts : List Nat) (sp : a2g → List V → AL Obj → Option (List (Bool × Res))) (fnid : FuncId) (e : TypeId) (kb f id : Nat) (sh : Sh) (L : List Lf) (a b : List Nat) : Option (Ex × St) := rfC P Y ts sp fnid e kb (a2V P f id) (a0p sh L) (fun e st => some (e, a60 a b st))
def Sg.rf {X : Ctx} {P : Program} {kb f : Nat} {Y : a2g} {ts : List Nat} (s : Sg P kb f X) {id na : Nat} {a b : List Nat} {sh shf : Sh} {Af : List Lf → List (Bool × Res)} {fnid : FuncId} {e : TypeId} {g : Operand} (A : List Lf → List (Bool × (Ex × St))) (hf : e5R Y P fnid na shf Af) (h : ∀ L x, a5f (A L) some = some x → pcR P Y ts (spY na shf Af) fnid e kb f id sh L a b = some x)
  (hcode : a2V P f id = .rangeFunc g Y.ps.toArray Y.ca Y.cb) (he : c19 P fnid = true := by kernel_rfl) (h1 : c90 P f id = true := by kernel_rfl) : Sg P kb f X :=
 ⟨{ s.h with los := (id, d5d sh A) :: s.h.los }, a1o.cons s.ok h1 (d5n (enters_of he) hf hcode a b (b2l (Q := fun st x => rfC P Y ts (spY na shf Af) fnid e kb (a2V P f id) st (fun e st => some (e, a60 a b st)) = some x) h))⟩
end Go.AM

