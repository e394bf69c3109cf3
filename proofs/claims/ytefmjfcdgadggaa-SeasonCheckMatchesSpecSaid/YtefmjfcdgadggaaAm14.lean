/- The abstract machine: a new object, a changed object. -/
import Derived.Test.YtefmjfcdgadggaaAm13
set_option linter.all false
namespace Go.AM
open Go

def upd (env : Env) (key : Nat) (s : Slot) : Env := fun k => if k = key then s else env k
section
variable {P : Program} {N n0 kb : Nat} {F : Nat → Prop} {B M0 : Stab} {w0 : World} {e0 env : Env} {st : St} {a : Act} {w : World}
theorem keysC_mkC (k : CK) (d : D) : keysC (mkC k d) = [] := by cases k <;> rfl
theorem keys_elCells (e : TypeId) (d : D) : ∀ c ∈ elCells P e d, keysC c = [] := by
  intro c hc
  obtain ⟨j, hj⟩ := List.getElem?_of_mem hc
  rw [getElem?_elCells] at hj
  cases hk : (kinds P e)[j]? with
  | none => rw [hk] at hj; cases hj
  | some k => rw [hk] at hj; simp only [Option.map_some, Option.some.injEq] at hj; subst hj; exact keysC_mkC _ _
theorem valueD_mono {S S' : Stab} {w' : World} {env' : Env} (h : Keeps w S w' S') {T : TypeId} {d : D} {v : Value} (hr : VRel P env S w (valueD P T d) v) : VRel P env' S' w' (valueD P T d) v := by
  unfold valueD at hr ⊢
  cases ha : isAggB P T with
  | true =>
    rw [ha] at hr
    obtain ⟨vs, h1, h2⟩ := hr
    exact ⟨vs, h1, h2.mono fun c u hc hcu => CRel.mono h (fun k hk => by rw [keys_elCells T d c hc] at hk; cases hk) hcu⟩
  | false =>
    rw [ha] at hr
    simp only [cond_false] at hr ⊢
    split at hr
    · rename_i c he
      exact CRel.mono h (fun k hk => by rw [keys_elCells T d c (by rw [he]; simp)] at hk; cases hk) hr
    · trivial
theorem row_mono {S S' : Stab} {w' : World} {env' : Env} (h : Keeps w S w' S') {s : Slot} {e : TypeId} {ex nl : Bool} {xs : List D} (hh : nl = false → w'.heap[s.blk]? = w.heap[s.blk]?) (hr : ObjRel P env S w s (.row e ex nl xs)) (ex' : Bool) : ObjRel P env' S' w' s (.row e ex' nl xs) := by
  obtain ⟨h0, h1 | ⟨h1, h2, cap, cur, h3, h4, h5, h6, h7, h8⟩⟩ := hr
  · exact ⟨h0, .inl h1⟩
  · exact ⟨h0, .inr ⟨h1, h2, cap, cur, h3, by rw [hh h1]; exact h4, h5, h6, h7, fun i j k hi hk => let ⟨u, a, b⟩ := h8 i j k hi hk; ⟨u, a, b.mono h⟩⟩⟩
theorem map_mono {S S' : Stab} {w' : World} {env' : Env} (h : Keeps w S w' S') {s : Slot} {kt vt : TypeId} {es : List (D × D)} (hh : w'.heap[s.blk]? = w.heap[s.blk]?) (hr : ObjRel P env S w s (.map kt vt es)) : ObjRel P env' S' w' s (.map kt vt es) := by
  obtain ⟨ents, clock, h1, h2⟩ := hr
  exact ⟨ents, clock, by rw [hh]; exact h1, h2.mono fun x y _ hxy => let ⟨kd, q1, q2⟩ := hxy.1; ⟨⟨kd, valueD_mono h q1, q2⟩, valueD_mono h hxy.2⟩⟩
theorem obj_inval {S S' : Stab} {w' : World} {env' : Env} (h : Keeps w S w' S') {key : Nat} (he : ∀ k, k ≠ key → env' k = env k) {s : Slot} {o : Obj} (hh : realO o → w'.heap[s.blk]? = w.heap[s.blk]?) (hr : ObjRel P env S w s o) : ObjRel P env' S' w' s (invalO key o) := by
  cases o with
  | box cs =>
    obtain ⟨cur, T, h1, h2, h3⟩ := hr
    refine ⟨cur, T, by rw [hh trivial]; exact h1, by simpa using h2, ?_⟩
    simp only [List.length_map]
    exact h3.mapl fun x y _ hxy => CRel.inval h key he hxy
  | row e ex nl xs => exact row_mono h hh hr ex
  | map kt vt es => exact map_mono h (hh trivial) hr
theorem obj_same {S S' : Stab} {w' : World} (h : Keeps w S w' S') {s : Slot} {o : Obj} (hh : realO o → w'.heap[s.blk]? = w.heap[s.blk]?) (hr : ObjRel P env S w s o) : ObjRel P env S' w' s o := by
  cases o with
  | box cs =>
    obtain ⟨cur, T, h1, h2, h3⟩ := hr
    exact ⟨cur, T, by rw [hh trivial]; exact h1, h2, h3.mono fun x y _ hxy => CRel.mono h (fun _ _ => rfl) hxy⟩
  | row e ex nl xs => exact row_mono h hh hr ex
  | map kt vt es => exact map_mono h (hh trivial) hr
theorem mutO_inval {s : Slot} {key : Nat} {o : Obj} {b x : Nat} : MutO P s (invalO key o) b x ↔ MutO P s o b x := by
  cases o <;> simp [invalO, MutO]
theorem realO_inval {key : Nat} {o : Obj} : realO (invalO key o) ↔ realO o := by cases o <;> simp [invalO, realO]
theorem mutO_real {s : Slot} {o : Obj} {b x : Nat} (h : MutO P s o b x) : realO o ∧ b = s.blk := by
  cases o with
  | box cs => exact ⟨trivial, h.1⟩
  | row e ex nl xs => exact ⟨h.1, h.2.1⟩
  | map kt vt es => exact ⟨trivial, h⟩
/-- A key comes to stand for a new object. -/
theorem Rel.new (h : Rel P N n0 B M0 w0 F e0 env st a w) {mem0 : AL Obj} (hsub : ∀ k ob, get mem0 k = some ob → get st.mem k = some ob) (key : Nat) (hkey : ¬ F key) (o : Obj) (s : Slot) {w' : World} (Mt : Stab)
    (hch : Chg Mt w w') (hMt : ∀ b x, Mt b x → ∃ k ob, get st.mem k = some ob ∧ MutO P (env k) ob b x)
    (hother : ∀ k ob, k ≠ key → get mem0 k = some ob → realO ob → w'.heap[(env k).blk]? = w.heap[(env k).blk]?)
    (hnew : Keeps w (Sof P B M0 n0 env st.mem w) w' (Sof P B M0 n0 (upd env key s) (fresh key o { st with mem := mem0 }).mem w') → ObjRel P (upd env key s) (Sof P B M0 n0 (upd env key s) (fresh key o { st with mem := mem0 }).mem w') w' s o)
    (hmutnew : ∀ b x, MutO P s o b x → w.heap.size ≤ b ∨ ∃ k' ob', get st.mem k' = some ob' ∧ MutO P (env k') ob' b x)
    (hdsnew : realO o → ∀ k ob, k ≠ key → get mem0 k = some ob → realO ob → (env k).blk ≠ s.blk)
    (hprnew : ∀ e ex xs, o = .row e ex false xs → ∀ x, x < xs.length * sizeB P e → B s.blk x ∨ n0 ≤ s.blk ∨ M0 s.blk x) :
    Rel P N n0 B M0 w0 F e0 (upd env key s) (fresh key o { st with mem := mem0 }) a w' := by
  have hek : upd env key s key = s := by simp [upd]
  have hen : ∀ k, k ≠ key → upd env key s k = env k := fun k hk => by simp [upd, hk]
  have hget : ∀ k ob, get (fresh key o { st with mem := mem0 }).mem k = some ob → (k = key ∧ ob = o) ∨ (k ≠ key ∧ ∃ ob0, get mem0 k = some ob0 ∧ ob = invalO key ob0) := by
    intro k ob hg
    simp only [fresh, get_set] at hg
    by_cases hk : k = key
    · rw [if_pos hk] at hg; simp only [Option.some.injEq] at hg; exact .inl ⟨hk, hg.symm⟩
    · rw [if_neg hk, get_mapV] at hg
      cases hg0 : get mem0 k with
      | none => rw [hg0] at hg; cases hg
      | some ob0 => rw [hg0] at hg; simp only [Option.map_some, Option.some.injEq] at hg; exact .inr ⟨hk, ob0, rfl, hg.symm⟩
  refine Rel.step h Mt hch hMt ?_ ?_ ?_ ?_ ?_ (fun k hk => hen k fun e => hkey (e ▸ hk))
  · intro k ob b x hg hm
    rcases hget k ob hg with ⟨rfl, rfl⟩ | ⟨hk, ob0, hg0, rfl⟩
    · rw [hek] at hm; exact hmutnew b x hm
    · rw [hen k hk, mutO_inval] at hm
      exact .inr ⟨k, ob0, hsub k ob0 hg0, hm⟩
  · intro hkeep t x hx
    simp only [get_mapV] at hx
    cases hg : get st.tmps t with
    | none => rw [hg] at hx; cases hx
    | some y =>
      rw [hg] at hx
      simp only [Option.map_some, Option.some.injEq] at hx
      subst hx
      exact VRelA.inval hkeep key hen (h.tm t y hg)
  · intro hkeep k ob hg
    rcases hget k ob hg with ⟨rfl, rfl⟩ | ⟨hk, ob0, hg0, rfl⟩
    · rw [hek]; exact hnew hkeep
    · rw [hen k hk]
      exact obj_inval hkeep hen (hother k ob0 hk hg0) (h.ob k ob0 (hsub k ob0 hg0))
  · intro k k' o1 o2 hg hg' hr hr' hne
    rcases hget k o1 hg with ⟨rfl, rfl⟩ | ⟨hk, ob0, hg0, rfl⟩
    · rcases hget k' o2 hg' with ⟨rfl, rfl⟩ | ⟨hk', ob0', hg0', rfl⟩
      · exact absurd rfl hne
      · rw [hek, hen k' hk']
        exact (hdsnew hr k' ob0' hk' hg0' (realO_inval.1 hr')).symm
    · rcases hget k' o2 hg' with ⟨rfl, rfl⟩ | ⟨hk', ob0', hg0', rfl⟩
      · rw [hek, hen k hk]
        exact hdsnew hr' k ob0 hk hg0 (realO_inval.1 hr)
      · rw [hen k hk, hen k' hk']
        exact h.ds k k' ob0 ob0' (hsub k ob0 hg0) (hsub k' ob0' hg0') (realO_inval.1 hr) (realO_inval.1 hr') hne
  · intro k e ex xs hg x hx
    rcases hget k _ hg with ⟨rfl, rfl⟩ | ⟨hk, ob0, hg0, hrow⟩
    · rw [hek]; exact hprnew e ex xs rfl x hx
    · rw [hen k hk]
      cases ob0 with
      | row e' ex' nl' xs' =>
        simp only [invalO, Obj.row.injEq] at hrow
        obtain ⟨rfl, rfl, rfl, rfl⟩ := hrow
        exact h.pr k e ex xs (hsub k _ hg0) x hx
      | box cs => cases hrow
      | map kt vt es => cases hrow
/-- A new block. -/
def push (w : World) (o : Go.Obj) : World := { w with heap := w.heap.push o }
theorem push_old {w : World} {o : Go.Obj} {b : Nat} (h : b < w.heap.size) : (push w o).heap[b]? = w.heap[b]? := by
  show (w.heap.push o)[b]? = _
  rw [Array.getElem?_push, if_neg (by omega)]
theorem push_new {w : World} {o : Go.Obj} : (push w o).heap[w.heap.size]? = some o := by
  show (w.heap.push o)[w.heap.size]? = _
  rw [Array.getElem?_push, if_pos rfl]
theorem chg_push (M : Stab) (w : World) (o : Go.Obj) : Chg M w (push w o) :=
  ⟨rfl, rfl, rfl, by simp [push], fun b cur T fr h => ⟨cur, by rw [push_old (Array.getElem?_eq_some_iff.1 h).1]; exact h, rfl, fun _ _ => rfl⟩,
    fun b ob h _ => by rw [push_old (Array.getElem?_eq_some_iff.1 h).1]; exact h⟩
theorem Rel.lt (h : Rel P N n0 B M0 w0 F e0 env st a w) {k : Nat} {ob : Obj} (hg : get st.mem k = some ob) (hr : realO ob) : (env k).blk < w.heap.size := by
  have := h.ob k ob hg
  cases ob with
  | box cs => obtain ⟨cur, T, h1, _⟩ := this; exact (Array.getElem?_eq_some_iff.1 h1).1
  | row e ex nl xs =>
    obtain ⟨_, ⟨hn, _⟩ | ⟨_, _, cap, cur, _, h1, _⟩⟩ := this
    · rw [show nl = false from hr] at hn; cases hn
    · exact (Array.getElem?_eq_some_iff.1 h1).1
  | map kt vt es => obtain ⟨ents, clock, h1, _⟩ := this; exact (Array.getElem?_eq_some_iff.1 h1).1
/-- A new block, and a key for it. 'd': how many draws lay ahead of it. -/
theorem Rel.newBlock (h : Rel P N n0 B M0 w0 F e0 env st a w) {mem0 : AL Obj} (hsub : ∀ k ob, get mem0 k = some ob → get st.mem k = some ob) (key : Nat) (hkey : ¬ F key) (o : Obj) (hd : Option (Nat × Nat)) (go : Go.Obj) {w' : World} (hch : Chg (fun _ _ => False) w w') (hheap : w'.heap = w.heap.push go)
    (hnew : ∀ S', Keeps w (Sof P B M0 n0 env st.mem w) w' S' → ObjRel P (upd env key ⟨w.heap.size, 0, hd⟩) S' w' ⟨w.heap.size, 0, hd⟩ o) :
    Rel P N n0 B M0 w0 F e0 (upd env key ⟨w.heap.size, 0, hd⟩) (fresh key o { st with mem := mem0 }) a w' := by
  refine Rel.new h hsub key hkey o _ (fun _ _ => False) hch (fun _ _ hf => hf.elim) ?_ (fun hk => hnew _ hk) ?_ ?_ ?_
  · intro k ob _ hg hr
    have := h.lt (hsub k ob hg) hr
    rw [hheap, Array.getElem?_push, if_neg (by omega)]
  · intro b x hm
    have := (mutO_real hm).2
    exact .inl (by rw [this]; exact Nat.le_refl _)
  · intro _ k ob _ hg hr
    have := h.lt (hsub k ob hg) hr
    show (env k).blk ≠ w.heap.size
    omega
  · intro e ex xs _ x _
    exact .inr (.inl h.n0le)
/-- An object in place of another, in the same block. -/
theorem Rel.upd (h : Rel P N n0 B M0 w0 F e0 env st a w) {key : Nat} {o o' : Obj} (hg : get st.mem key = some o) {w' : World} (Mt : Stab) (hch : Chg Mt w w') (hMt : ∀ b x, Mt b x → MutO P (env key) o b x)
    (hmut : ∀ b x, MutO P (env key) o' b x → MutO P (env key) o b x) (hreal : realO o' → realO o) (hsame : ∀ b, b ≠ (env key).blk → w'.heap[b]? = w.heap[b]?) (hro : realO o)
    (hnew : ∀ S', Keeps w (Sof P B M0 n0 env st.mem w) w' S' → ObjRel P env S' w' (env key) o')
    (hpr : ∀ e ex xs, o' = .row e ex false xs → ∀ x, x < xs.length * sizeB P e → B (env key).blk x ∨ n0 ≤ (env key).blk ∨ M0 (env key).blk x) :
    Rel P N n0 B M0 w0 F e0 env { st with mem := set st.mem key o' } a w' := by
  have hget : ∀ k ob, get (set st.mem key o') k = some ob → (k = key ∧ ob = o') ∨ (k ≠ key ∧ get st.mem k = some ob) := by
    intro k ob hgk
    rw [get_set] at hgk
    by_cases hk : k = key
    · rw [if_pos hk] at hgk; simp only [Option.some.injEq] at hgk; exact .inl ⟨hk, hgk.symm⟩
    · rw [if_neg hk] at hgk; exact .inr ⟨hk, hgk⟩
  refine Rel.step h Mt hch (fun b x hm => ⟨key, o, hg, hMt b x hm⟩) ?_ ?_ ?_ ?_ ?_ (fun _ _ => rfl)
  · intro k ob b x hgk hm
    rcases hget k ob hgk with ⟨rfl, rfl⟩ | ⟨_, hgk⟩
    · exact .inr ⟨_, _, hg, hmut b x hm⟩
    · exact .inr ⟨k, ob, hgk, hm⟩
  · intro hkeep t x hx
    exact VRelA.mono hkeep (fun _ => rfl) (h.tm t x hx)
  · intro hkeep k ob hgk
    rcases hget k ob hgk with ⟨rfl, rfl⟩ | ⟨hk, hgk⟩
    · exact hnew _ hkeep
    · exact obj_same hkeep (fun hr => hsame _ (h.ds k key ob o hgk hg hr hro hk)) (h.ob k ob hgk)
  · intro k k' o1 o2 hg1 hg2 hr1 hr2 hne
    rcases hget k o1 hg1 with ⟨rfl, rfl⟩ | ⟨hk, q1⟩ <;> rcases hget k' o2 hg2 with ⟨rfl, rfl⟩ | ⟨hk', q2⟩
    · exact absurd rfl hne
    · exact h.ds _ k' o o2 hg q2 (hreal hr1) hr2 hne
    · exact h.ds k _ o1 o q1 hg hr1 (hreal hr2) hne
    · exact h.ds k k' o1 o2 q1 q2 hr1 hr2 hne
  · intro k e ex xs hgk x hx
    rcases hget k _ hgk with ⟨rfl, rfl⟩ | ⟨hk, hgk⟩
    · exact hpr e ex xs rfl x hx
    · exact h.pr k e ex xs hgk x hx
end
end Go.AM
