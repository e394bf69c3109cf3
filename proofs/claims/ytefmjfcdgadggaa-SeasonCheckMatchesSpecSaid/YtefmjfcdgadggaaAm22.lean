/- The abstract machine: what a call may lean on, and what it promises. -/
import Derived.Test.YtefmjfcdgadggaaAm21
set_option linter.all false
namespace Go.AM
open Go

def Mut0 (P : Program) (env : Env) (mem : AL Obj) : Stab := fun b o => ∃ k ob, get mem k = some ob ∧ MutO P (env k) ob b o
structure MRel (P : Program) (n0 : Nat) (B M0 : Stab) (w0 : World) (F : Nat → Prop) (e0 env : Env) (mem : AL Obj) (w : World) : Prop where
  hn0 : n0 = w0.heap.size
  ob : ∀ key o, get mem key = some o → ObjRel P env (Sof P B M0 n0 env mem w) w (env key) o
  ds : ∀ k k' o o', get mem k = some o → get mem k' = some o' → realO o → realO o' → k ≠ k' → (env k).blk ≠ (env k').blk
  mu : ∀ key o b x, get mem key = some o → MutO P (env key) o b x → M0 b x ∨ n0 ≤ b
  pr : ∀ key e ex xs, get mem key = some (.row e ex false xs) → ∀ o, o < xs.length * sizeB P e → B (env key).blk o ∨ n0 ≤ (env key).blk ∨ M0 (env key).blk o
  ch : Chg M0 w0 w
  bb : ∀ b o, B b o → b < n0
  fx : ∀ k, F k → env k = e0 k
theorem Rel.toM {P : Program} {N n0 : Nat} {F : Nat → Prop} {B M0 : Stab} {w0 w : World} {e0 env : Env} {st : St} {a : Act} (h : Rel P N n0 B M0 w0 F e0 env st a w) : MRel P n0 B M0 w0 F e0 env st.mem w :=
  ⟨h.hn0, h.ob, h.ds, h.mu, h.pr, h.ch, h.bb, h.fx⟩
/-- What a call may lean on. -/
structure CallPre (P : Program) (B : Stab) (env : Env) (mem : AL Obj) (w : World) : Prop where
  rel : MRel P w.heap.size B (Mut0 P env mem) w (· < mem.length) env env mem w
  key : ∀ k o, get mem k = some o → k < mem.length
def CallPost (P : Program) (B : Stab) (env : Env) (mem : AL Obj) (w : World) (res : Res) (v : Value) (w' : World) : Prop :=
  ∃ env', MRel P w.heap.size B (Mut0 P env mem) w (· < mem.length) env env' res.2 w' ∧ VRel P env' (Sof P B (Mut0 P env mem) w.heap.size env' res.2 w') w' (resultOf res.1) v
/-- A call of the model does what the abstract machine says of it. -/
def CallOk (P : Program) (f : FuncId) (args : List V) (mem : AL Obj) (res : Res) : Prop :=
  ∀ (B : Stab) (env : Env) (w : World) (vs : Array Value), CallPre P B env mem w → All2 (VRel P env (Sof P B (Mut0 P env mem) w.heap.size env mem w) w) args vs.toList →
    Calls P f vs w fun e w' => ∃ v, e = .returned v ∧ CallPost P B env mem w res v w'
def Enters (P : Program) (f : FuncId) : Prop := ∃ fn, P.funcs[f]? = some fn ∧ fn.body.isNone = false ∧ (fn.name == "runtime.NumGoroutine") = false
def OracleOk (P : Program) (cl : Oracle) : Prop := ∀ f args mem alts, cl f args mem = some alts → Enters P f ∧ ∀ res, altK alts some = some res → CallOk P f args mem res
theorem altK_bind {α R : Type} {k : α → Option R} : ∀ {alts : List (Bool × α)}, altK alts k = (altK alts some).bind k
  | [] => rfl
  | (c, x) :: r => by
    simp only [altK]
    cases c with
    | true => rfl
    | false => exact altK_bind
theorem subBox_some {cs sub : List C} {r : Ref} (h : subBox cs r = some sub) : r.off + sub.length ≤ cs.length ∧ sub = (cs.drop r.off).take sub.length ∧ (∀ n, r.size = some n → sub.length = n) ∧ (r.size = none → r.off = 0 ∧ sub = cs) := by
  unfold subBox at h
  split at h
  · rename_i hs
    cases hb : Nat.beq r.off 0 with
    | false => rw [hb] at h; cases h
    | true =>
      rw [hb] at h
      simp only [cond_true, Option.some.injEq] at h
      subst h
      have := Nat.eq_of_beq_eq_true hb
      exact ⟨by omega, by rw [this]; simp, fun n hn => (by rw [hs] at hn; cases hn), fun _ => ⟨this, rfl⟩⟩
  · rename_i n hs
    cases hb : Nat.ble (r.off + n) cs.length with
    | false => rw [hb] at h; cases h
    | true =>
      rw [hb] at h
      simp only [cond_true, Option.some.injEq] at h
      subst h
      have hle := Nat.le_of_ble_eq_true hb
      have hl : ((cs.drop r.off).take n).length = n := by simp; omega
      exact ⟨by omega, by rw [hl], fun m hm => (by rw [hs] at hm; cases hm; exact hl), fun hn => (by rw [hs] at hn; cases hn)⟩
theorem take_drop_take {α : Type} (l : List α) (base n off m : Nat) (h : off + m ≤ n) : (((l.drop base).take n).drop off).take m = (l.drop (base + off)).take m := by
  rw [List.drop_take, List.take_take, List.drop_drop, Nat.min_eq_left (by omega)]
section
variable {P : Program} {N n0 kb : Nat} {F : Nat → Prop} {B M0 : Stab} {w0 : World} {e0 env : Env} {st : St} {a : Act} {w : World}
/-- What the call may write is the caller's own. -/
theorem mutC {acc : List Ref} {mem mem' : AL Obj} (hh : handed mem acc acc 0 = some mem') {i : Nat} {ob : Obj} {b x : Nat} (hg : get mem' i = some ob) (hm : MutO P (envC acc env i) ob b x) :
    ∃ r o, acc[i]? = some r ∧ get mem r.key = some o ∧ MutO P (env r.key) o b x := by
  obtain ⟨j, r, e1, e2, o, h1, h2⟩ := (handed_get hh).1 i ob hg
  rw [Nat.zero_add] at e1
  subst e1
  refine ⟨r, o, e2, h1, ?_⟩
  rw [envC_get e2] at hm
  rcases h2 with ⟨cs, sub, sub', rfl, hs, hs', rfl⟩ | ⟨e, ex, nl, xs, rfl, ho, rfl⟩ | ⟨kt, vt, es, rfl, ho, rfl⟩
  · obtain ⟨q1, _⟩ := subBox_some hs
    have q2 := renCs_length hs'
    obtain ⟨m1, m2, m3⟩ := hm
    exact ⟨m1, by simp only at m2; omega, by simp only at m3; omega⟩
  · exact hm
  · exact hm
theorem call_pre (h : Rel P N n0 B M0 w0 F e0 env st a w) {acc : List Ref} (hnd : Nodup acc) {mem' : AL Obj} (hh : handed st.mem acc acc 0 = some mem') :
    CallPre P (Sof P B M0 n0 env st.mem w) (envC acc env) mem' w ∧
    Keeps w (Sof P B M0 n0 env st.mem w) w (Sof P (Sof P B M0 n0 env st.mem w) (Mut0 P (envC acc env) mem') w.heap.size (envC acc env) mem' w) := by
  obtain ⟨g1, g2, g3⟩ := handed_get hh
  have hkeep : Keeps w (Sof P B M0 n0 env st.mem w) w (Sof P (Sof P B M0 n0 env st.mem w) (Mut0 P (envC acc env) mem') w.heap.size (envC acc env) mem' w) := by
    intro b o v hS hv
    refine ⟨⟨.inl hS, hS.2.1, fun k ob hg hm => ?_⟩, hv⟩
    obtain ⟨r, o', _, h1, h2⟩ := mutC hh hg hm
    exact hS.2.2 r.key o' h1 h2
  have hkey : ∀ k o, get mem' k = some o → k < mem'.length := by
    intro k o hg
    obtain ⟨j, r, e1, e2, _⟩ := g1 k o hg
    have := (List.getElem?_eq_some_iff.1 e2).1
    omega
  refine ⟨⟨⟨rfl, ?_, ?_, ?_, ?_, Chg.refl _ w, fun b o hS => hS.2.1, fun _ _ => rfl⟩, hkey⟩, hkeep⟩
  · intro i ob hg
    obtain ⟨j, r, e1, e2, o, h1, h2⟩ := g1 i ob hg
    rw [Nat.zero_add] at e1
    subst e1
    have hob := h.ob _ _ h1
    rw [envC_get e2]
    rcases h2 with ⟨cs, sub, sub', rfl, hs, hs', rfl⟩ | ⟨e, ex, nl, xs, rfl, ho, rfl⟩ | ⟨kt, vt, es, rfl, ho, rfl⟩
    · obtain ⟨q1, q2, _, _⟩ := subBox_some hs
      have q3 := renCs_length hs'
      obtain ⟨cur, T, c1, c2, c3⟩ := hob
      refine ⟨cur, T, c1, by simp only; omega, ?_⟩
      have hr : All2 (CRel P env (Sof P B M0 n0 env st.mem w) w) sub ((cur.toList.drop ((env r.key).base + r.off)).take sub.length) := by
        have := (c3.drop r.off).take sub.length
        rw [take_drop_take _ _ _ _ _ q1] at this
        rw [q2]
        have hl : ((cs.drop r.off).take sub.length).length = sub.length := by simp; omega
        rw [hl]
        exact this
      rw [q3]
      exact renCs_sound hkeep hs' hr
    · rw [ho]
      exact row_mono (s := ⟨(env r.key).blk, (env r.key).base + 0, (env r.key).head⟩) hkeep (fun _ => rfl) hob ex
    · exact map_mono (s := ⟨(env r.key).blk, (env r.key).base + r.off, (env r.key).head⟩) hkeep rfl hob
  · intro k k' o o' hg hg' hr hr' hne
    obtain ⟨j, r, e1, e2, ob, h1, h2⟩ := g1 k o hg
    obtain ⟨j', r', e1', e2', ob', h1', h2'⟩ := g1 k' o' hg'
    rw [Nat.zero_add] at e1 e1'
    subst e1 e1'
    rw [envC_get e2, envC_get e2']
    have real : ∀ {o ob : Obj} {r : Ref}, ((∃ cs sub sub', ob = .box cs ∧ subBox cs r = some sub ∧ renCs acc sub = some sub' ∧ o = .box sub') ∨ (∃ e ex nl xs, ob = .row e ex nl xs ∧ r.off = 0 ∧ o = ob) ∨ (∃ kt vt es, ob = .map kt vt es ∧ r.off = 0 ∧ o = ob)) → realO o → realO ob := by
      rintro o ob r (⟨cs, sub, sub', rfl, _, _, rfl⟩ | ⟨e, ex, nl, xs, rfl, _, rfl⟩ | ⟨kt, vt, es, rfl, _, rfl⟩) hr
      · trivial
      · exact hr
      · trivial
    refine h.ds r.key r'.key ob ob' h1 h1' (real h2 hr) (real h2' hr') fun hk => hne (nodup_get hnd e2 e2' hk)
  · intro key o b x hg hm; exact .inl ⟨key, o, hg, hm⟩
  · intro key e ex xs hg o ho
    obtain ⟨j, r, e1, e2, ob, h1, h2⟩ := g1 key _ hg
    rw [Nat.zero_add] at e1
    subst e1
    rcases h2 with ⟨cs, sub, sub', rfl, hs, hs', hrow⟩ | ⟨e', ex', nl', xs', rfl, hoff, hrow⟩ | ⟨kt, vt, es, rfl, _, hrow⟩
    · cases hrow
    · simp only [Obj.row.injEq] at hrow
      obtain ⟨rfl, rfl, rfl, rfl⟩ := hrow
      rw [envC_get e2]
      cases ex with
      | false => exact .inl (h.rows r.key e xs h1 o ho)
      | true => exact .inr (.inr ⟨_, _, hg, rfl, by rw [envC_get e2], .inl rfl⟩)
    · cases hrow
theorem chg_block {M : Stab} {w w' : World} (h : Chg M w w') {b : Nat} (hb : b < w.heap.size) (hno : ∀ o, ¬ M b o) : w'.heap[b]? = w.heap[b]? := by
  have hs := Array.getElem?_eq_getElem hb
  rw [hs]
  exact h.other b _ hs hno
end
end Go.AM
