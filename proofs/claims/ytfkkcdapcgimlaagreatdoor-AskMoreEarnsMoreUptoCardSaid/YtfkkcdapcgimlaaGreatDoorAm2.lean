/- The abstract machine: every operation that changes the memory. -/
import Derived.Test.YtfkkcdapcgimlaaGreatDoorAm1
import Derived.IntWalk
import Derived.Laws.MakeOwn
import Derived.Lib.AppendZeros
import Derived.Lib.AppendZerosOnto
import Derived.Lib.AppendStr
import Derived.Laws.StandIn
set_option linter.all false
set_option maxRecDepth 100000
namespace Go.AM
open Go

def upd (env : Env) (key : Nat) (s : a3R) : Env := fun k => if k = key then s else env k
section
variable {P : Program} {N n0 kb : Nat} {F : Nat → Prop} {B M0 : a0Q} {w0 : World} {e0 : b0H} {env : Env} {st : St} {a : Act} {w : World}
theorem d4S (k : CK) (d : D) : a4I (mkC k d) = [] := by
 cases k <;> first
  | rfl
  | (rcases a4q d with o1 | ⟨_, o1⟩ <;> rw [o1] <;> rfl)
theorem b45 (e : TypeId) (d : D) : ∀ c ∈ a0Z P e d, a4I c = [] := by
 intro c hc
 obtain ⟨j, hj⟩ := List.getElem?_of_mem hc
 rw [getElem?_elCells] at hj
 cases hk : (kinds P e)[j]? with
 | none => rw [hk] at hj; cases hj
 | some k => rw [hk] at hj; simp only [f6b, f5S] at hj; subst hj; exact d4S _ _
theorem a09 {S S' : a0Q} {w' : World} {env' : Env} (h : a0O w S w' S') {T : TypeId} {d : D} {v : Value} (hr : a0G P env S w (a2i P T d) v) : a0G P env' S' w' (a2i P T d) v := by
 unfold a2i at hr ⊢
 cases ha : a0j P T with
 | true =>
  rw [ha] at hr
  obtain ⟨vs, h1, h2⟩ := hr
  exact ⟨vs, h1, h2.mono fun c u hc hcu => a0x.mono h (fun k hk => by rw [b45 T d c hc] at hk; cases hk) hcu⟩
 | false =>
  rw [ha] at hr
  simp only [cond_false] at hr ⊢
  split at hr
  ·rename_i c he
   exact a0x.mono h (fun k hk => by rw [b45 T d c (by rw [he]; simp)] at hk; cases hk) hr
  ·trivial
theorem a5j {S S' : a0Q} {w' : World} {env' : Env} (h : a0O w S w' S') {s : a3R} {e : TypeId} {ex nl : Bool} {xs : List D} (hh : nl = false → w'.heap[s.blk]? = w.heap[s.blk]?) (hr : a0R P env S w s (.row e ex nl xs)) (ex' : Bool) : a0R P env' S' w' s (.row e ex' nl xs) := by
 obtain ⟨h0, h1 | ⟨h1, h2, cap, cur, h3, h4, h5, h6, h7, h8⟩⟩ := hr
 ·exact ⟨h0, .inl h1⟩
 ·exact ⟨h0, .inr ⟨h1, h2, cap, cur, h3, h4.same (hh h1), h5, h6, h7, fun i j k hi hk => let ⟨u, a, b⟩ := h8 i j k hi hk; ⟨u, a, b.mono h⟩⟩⟩
theorem a9M {S S' : a0Q} {w' : World} {env' : Env} (h : a0O w S w' S') {s : a3R} {kt vt : TypeId} {es : List (D × D)} (hh : w'.heap[s.blk]? = w.heap[s.blk]?) (hr : a0R P env S w s (.map kt vt es)) : a0R P env' S' w' s (.map kt vt es) := by
 obtain ⟨ents, clock, h1, h2⟩ := hr
 exact ⟨ents, clock, by rw [hh]; exact h1, h2.mono fun x y _ hxy => let ⟨kd, q1, q2⟩ := hxy.1; ⟨⟨kd, a09 h q1, q2⟩, a09 h hxy.2⟩⟩
theorem c7p {S S' : a0Q} {w' : World} {env' : Env} (h : a0O w S w' S') {s s' : a3R} {kt vt : TypeId} {es : List (D × C)} {f : C → C} (hf : ∀ x v, x ∈ es.map (·.2) → a0x P env S w x v → a0x P env' S' w' (f x) v) (hh : w'.heap[s'.blk]? = w.heap[s.blk]?) (hr : a0R P env S w s (.tab kt vt es)) : a0R P env' S' w' s' (.tab kt vt (es.map fun x => (x.1, f x.2))) := by
 obtain ⟨ents, clock, h1, h2⟩ := hr
 exact ⟨ents, clock, by rw [hh]; exact h1, h2.mapl fun x y hx hxy => let ⟨kd, q1, q2⟩ := hxy.1; ⟨⟨kd, a09 h q1, q2⟩, hf _ _ (List.mem_map_of_mem hx) hxy.2⟩⟩
theorem c9N {S S' : a0Q} {w' : World} {env' : Env} (h : a0O w S w' S') {s s' : a3R} {kt vt : TypeId} {es : List (D × C)} (hf : ∀ x v, x ∈ es.map (·.2) → a0x P env S w x v → a0x P env' S' w' x v) (hh : w'.heap[s'.blk]? = w.heap[s.blk]?) (hr : a0R P env S w s (.tab kt vt es)) : a0R P env' S' w' s' (.tab kt vt es) := by
 obtain ⟨ents, clock, h1, h2⟩ := hr
 exact ⟨ents, clock, by rw [hh]; exact h1, h2.mono fun x y hx hxy => let ⟨kd, q1, q2⟩ := hxy.1; ⟨⟨kd, a09 h q1, q2⟩, hf _ _ (List.mem_map_of_mem hx) hxy.2⟩⟩
theorem a9N {S S' : a0Q} {w' : World} {env' : Env} (h : a0O w S w' S') {s : a3R} {T : TypeId} {d : D} (hh : w'.heap[s.blk]? = w.heap[s.blk]?) (hr : a0R P env S w s (.dat T d)) : a0R P env' S' w' s (.dat T d) := by
 obtain ⟨h0, cur, E, h1, h2, h3⟩ := hr
 exact ⟨h0, cur, E, by rw [hh]; exact h1, h2, fun j k hk => let ⟨u, a, b⟩ := h3 j k hk; ⟨u, a, b.mono h⟩⟩
theorem c4O {S S' : a0Q} {w' : World} {env' : Env} (h : a0O w S w' S') {key : Nat} (he : ∀ k, k ≠ key → env' k = env k) {s : a3R} {o : Obj} (hh : a08 o → w'.heap[s.blk]? = w.heap[s.blk]?) (hr : a0R P env S w s o) : a0R P env' S' w' s (a6s key o) := by
 cases o with
 | box cs =>
  obtain ⟨cur, T, h1, h2, h3, h4⟩ := hr
  refine ⟨cur, T, by rw [hh trivial]; exact h1, by simpa using h2, ?_, a5i (fun _ => a7d) h4⟩
  simp only [List.length_map]
  exact h3.mapl fun x y _ hxy => a0x.inval h key he hxy
 | row e ex nl xs => exact a5j h hh hr ex
 | map kt vt es => exact a9M h (hh trivial) hr
 | tab kt vt es => exact c7p h (fun x v _ hx => a0x.inval h key he hx) (hh trivial) hr
 | dat T d => exact a9N h (hh trivial) hr
theorem a1H {S S' : a0Q} {w' : World} (h : a0O w S w' S') {s : a3R} {o : Obj} (hh : a08 o → w'.heap[s.blk]? = w.heap[s.blk]?) (hr : a0R P env S w s o) : a0R P env S' w' s o := by
 cases o with
 | box cs =>
  obtain ⟨cur, T, h1, h2, h3, h4⟩ := hr
  exact ⟨cur, T, by rw [hh trivial]; exact h1, h2, h3.mono fun x y _ hxy => a0x.mono h (fun _ _ => rfl) hxy, h4⟩
 | row e ex nl xs => exact a5j h hh hr ex
 | map kt vt es => exact a9M h (hh trivial) hr
 | tab kt vt es => exact c9N h (fun x v _ hx => a0x.mono h (fun _ _ => rfl) hx) (hh trivial) hr
 | dat T d => exact a9N h (hh trivial) hr
theorem c0k {s : a3R} {key : Nat} {o : Obj} {b x : Nat} : a47 P s (a6s key o) b x ↔ a47 P s o b x := by
 cases o <;> simp [a6s, a47]
theorem a4r {key : Nat} {o : Obj} : a08 (a6s key o) ↔ a08 o := by cases o <;> simp [a6s, a08]
theorem a2A {s : a3R} {o : Obj} {b x : Nat} (h : a47 P s o b x) : a08 o ∧ b = s.blk := by
 cases o with
 | box cs => exact ⟨trivial, h.1⟩
 | row e ex nl xs => exact ⟨h.1, h.2.1⟩
 | map kt vt es => exact ⟨trivial, h⟩
 | tab kt vt es => exact ⟨trivial, h⟩
 | dat T d => exact ⟨trivial, h⟩
theorem Rel.new (h : Rel P N n0 B M0 w0 F e0 env st a w) {mem0 : AL Obj} (hsub : ∀ k ob, get mem0 k = some ob → get st.mem k = some ob) (key : Nat) (hkey : ¬ F key) (o : Obj) (s : a3R) {w' : World} (Mt : a0Q)
  (hch : Chg Mt w w') (hMt : ∀ b x, Mt b x → ∃ k ob, get st.mem k = some ob ∧ a47 P (env k) ob b x)
  (hother : ∀ k ob, k ≠ key → get mem0 k = some ob → a08 ob → w'.heap[(env k).blk]? = w.heap[(env k).blk]?)
  (hnew : a0O w (Sof P B M0 n0 env st.mem w) w' (Sof P B M0 n0 (upd env key s) (a0L key o { st with mem := mem0 }).mem w') → a0R P (upd env key s) (Sof P B M0 n0 (upd env key s) (a0L key o { st with mem := mem0 }).mem w') w' s o)
  (hmutnew : ∀ b x, a47 P s o b x → w.heap.size ≤ b ∨ ∃ k' ob', get st.mem k' = some ob' ∧ a47 P (env k') ob' b x)
  (hdsnew : a08 o → ∀ k ob, k ≠ key → get mem0 k = some ob → a08 ob → (env k).blk ≠ s.blk)
  (hprnew : ∀ e ex xs, o = .row e ex false xs → ∀ x, x < xs.length * a0d P e → B s.blk x ∨ n0 ≤ s.blk ∨ M0 s.blk x) :
  Rel P N n0 B M0 w0 F e0 (upd env key s) (a0L key o { st with mem := mem0 }) a w' := by
 have hek : upd env key s key = s := by simp [upd]
 have hen : ∀ k, k ≠ key → upd env key s k = env k := fun k hk => by simp [upd, hk]
 have hget : ∀ k ob, get (a0L key o { st with mem := mem0 }).mem k = some ob → (k = key ∧ ob = o) ∨ (k ≠ key ∧ ∃ ob0, get mem0 k = some ob0 ∧ ob = a6s key ob0) := by
  intro k ob hg
  simp only [a0L, a2q] at hg
  by_cases hk : k = key
  ·rw [if_pos hk] at hg; simp only [f5S] at hg; exact .inl ⟨hk, hg.symm⟩
  ·rw [if_neg hk, a1x] at hg
   cases hg0 : get mem0 k with
   | none => rw [hg0] at hg; cases hg
   | some ob0 => rw [hg0] at hg; simp only [f6b, f5S] at hg; exact .inr ⟨hk, ob0, rfl, hg.symm⟩
 refine Rel.step h Mt hch hMt ?_ ?_ ?_ ?_ ?_ (fun k hk => hen k fun e => hkey (e ▸ hk))
 ·intro k ob b x hg hm
  rcases hget k ob hg with ⟨rfl, rfl⟩ | ⟨hk, ob0, hg0, rfl⟩
  ·rw [hek] at hm; exact hmutnew b x hm
  ·rw [hen k hk, c0k] at hm
   exact .inr ⟨k, ob0, hsub k ob0 hg0, hm⟩
 ·intro hkeep t x hx
  simp only [a1x] at hx
  cases hg : get st.tmps t with
  | none => rw [hg] at hx; cases hx
  | some y =>
   rw [hg] at hx
   simp only [f6b, f5S] at hx
   subst hx
   exact a0w.inval hkeep key hen (h.tm t y hg)
 ·intro hkeep k ob hg
  rcases hget k ob hg with ⟨rfl, rfl⟩ | ⟨hk, ob0, hg0, rfl⟩
  ·rw [hek]; exact hnew hkeep
  ·rw [hen k hk]
   exact c4O hkeep hen (hother k ob0 hk hg0) (h.ob k ob0 (hsub k ob0 hg0))
 ·intro k k' o1 o2 hg hg' hr hr' hne
  rcases hget k o1 hg with ⟨rfl, rfl⟩ | ⟨hk, ob0, hg0, rfl⟩
  ·rcases hget k' o2 hg' with ⟨rfl, rfl⟩ | ⟨hk', ob0', hg0', rfl⟩
   ·exact absurd rfl hne
   ·rw [hek, hen k' hk']
    exact (hdsnew hr k' ob0' hk' hg0' (a4r.1 hr')).symm
  ·rcases hget k' o2 hg' with ⟨rfl, rfl⟩ | ⟨hk', ob0', hg0', rfl⟩
   ·rw [hek, hen k hk]
    exact hdsnew hr' k ob0 hk hg0 (a4r.1 hr)
   ·rw [hen k hk, hen k' hk']
    exact h.ds k k' ob0 ob0' (hsub k ob0 hg0) (hsub k' ob0' hg0') (a4r.1 hr) (a4r.1 hr') hne
 ·intro k e ex xs hg x hx
  rcases hget k _ hg with ⟨rfl, rfl⟩ | ⟨hk, ob0, hg0, hrow⟩
  ·rw [hek]; exact hprnew e ex xs rfl x hx
  ·rw [hen k hk]
   cases ob0 with
   | row e' ex' nl' xs' =>
    simp only [a6s, Obj.row.injEq] at hrow
    obtain ⟨rfl, rfl, rfl, rfl⟩ := hrow
    exact h.pr k e ex xs (hsub k _ hg0) x hx
   | box cs => cases hrow
   | map kt vt es => cases hrow
   | tab kt vt es => cases hrow
   | dat T d => cases hrow
def push (w : World) (o : Go.Obj) : World := { w with heap := w.heap.push o }
theorem c9O {w : World} {o : Go.Obj} {b : Nat} (h : b < w.heap.size) : (push w o).heap[b]? = w.heap[b]? := by
 show (w.heap.push o)[b]? = _
 rw [Array.getElem?_push, if_neg (by omega)]
theorem a9O {w : World} {o : Go.Obj} : (push w o).heap[w.heap.size]? = some o := by
 show (w.heap.push o)[w.heap.size]? = _
 rw [Array.getElem?_push, if_pos rfl]
theorem a6y (M : a0Q) (w : World) (o : Go.Obj) : Chg M w (push w o) :=
 ⟨rfl, rfl, rfl, by simp [push], fun b cur T fr h => ⟨cur, fr, by rw [c9O (f53.1 h).1]; exact h, rfl, fun _ _ => rfl, .inl rfl⟩,
  fun b ob h _ => by rw [c9O (f53.1 h).1]; exact h⟩
theorem Rel.lt (h : Rel P N n0 B M0 w0 F e0 env st a w) {k : Nat} {ob : Obj} (hg : get st.mem k = some ob) (hr : a08 ob) : (env k).blk < w.heap.size := by
 have := h.ob k ob hg
 cases ob with
 | box cs => obtain ⟨cur, T, h1, _⟩ := this; exact (f53.1 h1).1
 | row e ex nl xs =>
  obtain ⟨_, ⟨hn, _⟩ | ⟨_, _, cap, cur, _, h1, _⟩⟩ := this
  ·rw [show nl = false from hr] at hn; cases hn
  ·exact h1.lt
 | map kt vt es => obtain ⟨ents, clock, h1, _⟩ := this; exact (f53.1 h1).1
 | tab kt vt es => obtain ⟨ents, clock, h1, _⟩ := this; exact (f53.1 h1).1
 | dat T d => obtain ⟨_, cur, E, h1, _⟩ := this; exact (f53.1 h1).1
theorem Rel.newBlock (h : Rel P N n0 B M0 w0 F e0 env st a w) {mem0 : AL Obj} (hsub : ∀ k ob, get mem0 k = some ob → get st.mem k = some ob) (key : Nat) (hkey : ¬ F key) (o : Obj) (hd : Option (Nat × Nat)) (go : Go.Obj) {w' : World} (hch : Chg (fun _ _ => False) w w') (hheap : w'.heap = w.heap.push go)
  (hnew : ∀ S', a0O w (Sof P B M0 n0 env st.mem w) w' S' → a0R P (upd env key ⟨w.heap.size, 0, hd⟩) S' w' ⟨w.heap.size, 0, hd⟩ o) :
  Rel P N n0 B M0 w0 F e0 (upd env key ⟨w.heap.size, 0, hd⟩) (a0L key o { st with mem := mem0 }) a w' := by
 refine Rel.new h hsub key hkey o _ (fun _ _ => False) hch (fun _ _ hf => hf.elim) ?_ (fun hk => hnew _ hk) ?_ ?_ ?_
 ·intro k ob _ hg hr
  have := h.lt (hsub k ob hg) hr
  rw [hheap, Array.getElem?_push, if_neg (by omega)]
 ·intro b x hm
  have := (a2A hm).2
  exact .inl (by rw [this]; exact Nat.le_refl _)
 ·intro _ k ob _ hg hr
  have := h.lt (hsub k ob hg) hr
  show (env k).blk ≠ w.heap.size
  omega
 ·intro e ex xs _ x _
  exact .inr (.inl h.n0le)
theorem Rel.upd (h : Rel P N n0 B M0 w0 F e0 env st a w) {key : Nat} {o o' : Obj} (hg : get st.mem key = some o) {w' : World} (Mt : a0Q) (hch : Chg Mt w w') (hMt : ∀ b x, Mt b x → a47 P (env key) o b x)
  (hmut : ∀ b x, a47 P (env key) o' b x → a47 P (env key) o b x) (hreal : a08 o' → a08 o) (hsame : ∀ b, b ≠ (env key).blk → w'.heap[b]? = w.heap[b]?) (hro : a08 o)
  (hnew : ∀ S', a0O w (Sof P B M0 n0 env st.mem w) w' S' → a0R P env S' w' (env key) o')
  (hpr : ∀ e ex xs, o' = .row e ex false xs → ∀ x, x < xs.length * a0d P e → B (env key).blk x ∨ n0 ≤ (env key).blk ∨ M0 (env key).blk x) :
  Rel P N n0 B M0 w0 F e0 env { st with mem := set st.mem key o' } a w' := by
 have hget : ∀ k ob, get (set st.mem key o') k = some ob → (k = key ∧ ob = o') ∨ (k ≠ key ∧ get st.mem k = some ob) := by
  intro k ob hgk
  rw [a2q] at hgk
  by_cases hk : k = key
  ·rw [if_pos hk] at hgk; simp only [f5S] at hgk; exact .inl ⟨hk, hgk.symm⟩
  ·rw [if_neg hk] at hgk; exact .inr ⟨hk, hgk⟩
 refine Rel.step h Mt hch (fun b x hm => ⟨key, o, hg, hMt b x hm⟩) ?_ ?_ ?_ ?_ ?_ (fun _ _ => rfl)
 ·intro k ob b x hgk hm
  rcases hget k ob hgk with ⟨rfl, rfl⟩ | ⟨_, hgk⟩
  ·exact .inr ⟨_, _, hg, hmut b x hm⟩
  ·exact .inr ⟨k, ob, hgk, hm⟩
 ·intro hkeep t x hx
  exact a0w.mono hkeep (fun _ => rfl) (h.tm t x hx)
 ·intro hkeep k ob hgk
  rcases hget k ob hgk with ⟨rfl, rfl⟩ | ⟨hk, hgk⟩
  ·exact hnew _ hkeep
  ·exact a1H hkeep (fun hr => hsame _ (h.ds k key ob o hgk hg hr hro hk)) (h.ob k ob hgk)
 ·intro k k' o1 o2 hg1 hg2 hr1 hr2 hne
  rcases hget k o1 hg1 with ⟨rfl, rfl⟩ | ⟨hk, q1⟩ <;> rcases hget k' o2 hg2 with ⟨rfl, rfl⟩ | ⟨hk', q2⟩
  ·exact absurd rfl hne
  ·exact h.ds _ k' o o2 hg q2 (hreal hr1) hr2 hne
  ·exact h.ds k _ o1 o q1 hg hr1 (hreal hr2) hne
  ·exact h.ds k k' o1 o2 q1 q2 hr1 hr2 hne
 ·intro k e ex xs hgk x hx
  rcases hget k _ hgk with ⟨rfl, rfl⟩ | ⟨hk, hgk⟩
  ·exact hpr e ex xs rfl x hx
  ·exact h.pr k e ex xs hgk x hx
end
end Go.AM

namespace Go.AM
open Go

section
variable {P : Program} {N n0 kb : Nat} {F : Nat → Prop} {B M0 : a0Q} {w0 : World} {e0 : b0H} {env : Env} {st : St} {a : Act} {w : World}
def a1d {R : Type} (P : Program) (N n0 : Nat) (B M0 : a0Q) (w0 : World) (F : Nat → Prop) (e0 : b0H) (k : St → Option R) (r : R) (a : Act) (w : World) : Prop :=
 ∃ env st, Rel P N n0 B M0 w0 F e0 env st a w ∧ k st = some r
theorem a0X {o : Oper} {K : Act → World → Prop} {Q : Exit → Act → World → Prop} {v : Value} {w' : World} (h : (execOp a.eval o).run P w = .ok (.value v) w') (hk : K (a.put o.dst v) w') : o.wp P a w K Q := by
 unfold Oper.wp; rw [h]; exact hk
theorem c1U {o : Oper} {K : Act → World → Prop} {Q : Exit → Act → World → Prop} {w' : World} (h : (execOp a.eval o).run P w = .ok .skip w') (hk : K (a.put o.dst undef) w') : o.wp P a w K Q := by
 unfold Oper.wp; rw [h]; exact hk
theorem a9P {T : TypeId} {v : Value} : (newVar T v).run P w = .ok ⟨w.heap.size, 0, none⟩ (push w (.cells v.cells T)) := by
 simp [newVar, newRow, push]
theorem a0B.self_take {α β : Type} {R : α → β → Prop} {xs : List α} {ys : List β} (h : a0B R xs ys) : a0B R xs ((ys.drop 0).take xs.length) := by
 rw [List.drop_zero, h.length, List.take_length]; exact h
theorem b9B {key : Nat} {T : TypeId} {z : List C} : (a7H P key T z).length = z.length := by
 unfold a7H
 cases e0r P T && Nat.beq z.length (a0d P T) with
 | false => rfl
 | true =>
  simp only [cond_true]
  split <;> rfl
theorem c7q {S : a0Q} {key : Nat} {T : TypeId} {z : List C} {us : List Value} (h : a0B (a0x P env S w) z us) : a0B (a0x P env S w) (a7H P key T z) us := by
 unfold a7H
 cases e0r P T && Nat.beq z.length (a0d P T) with
 | false => exact h
 | true =>
  simp only [cond_true]
  split
  ·cases us with
   | nil => exact h.elim
   | cons u us => exact ⟨.inl h.1, h.2⟩
  ·exact h
theorem d2t {key n : Nat} {T : TypeId} {z : List C} (hn : z.length = n) (hz : ∀ c ∈ z, a6v P T n c) : ∀ c ∈ a7H P key T z, a6v P T n c := by
 unfold a7H
 cases hs : e0r P T && Nat.beq z.length (a0d P T) with
 | false => exact hz
 | true =>
  simp only [cond_true]
  split
  ·rename_i r
   rw [f5U] at hs
   intro c hc
   rcases f59.1 hc with rfl | hc
   ·exact ⟨rfl, hn ▸ f5T hs.2⟩
   ·exact hz c (by simp [hc])
  ·exact hz
theorem c9P {T : TypeId} {z : List C} (h : b9y P T = some z) {T' : TypeId} {n : Nat} : ∀ c ∈ z, a6v P T' n c := by
 unfold b9y at h
 split at h
 ·cases ha : a0j P T with
  | false => rw [ha] at h; cases h
  | true =>
   rw [ha] at h
   simp only [cond_true, f5S] at h
   subst h
   exact b4c fun c hc => by
    obtain ⟨x, _, rfl⟩ := List.mem_map.1 hc
    exact c9G
 ·cases ha : a0j P T with
  | true => rw [ha] at h; cases h
  | false =>
   rw [ha] at h
   simp only [cond_false, f5S] at h
   subst h
   exact b4c fun c hc => by
    simp only [List.mem_singleton] at hc
    subst hc
    exact c9G
 ·cases h
theorem c7r {R : Type} {d : Nat} {T : TypeId} {z : List C} {k : St → Option R} {r : R} {o : Oper} {Q : Exit → Act → World → Prop} (h : Rel P N n0 B M0 w0 F e0 env st a w) (hd : d < N) (hF : ¬ F (kb + d)) (ho : o.op = .alloc T) (hdst : o.dst = some d)
  (hz : b9y P T = some z) (hk : k ((a0L (kb + d) (.box (a7H P (kb + d) T z)) st).put (some d) (.c (.p (kb + d) 0))) = some r) : o.wp P a w (a1d P N n0 B M0 w0 F e0 k r) Q := by
 obtain ⟨i, v, _, _, _, hrun, _⟩ := a3F (env := env) (S := Sof P B M0 n0 env st.mem w) (w := w) hz
 refine a0X (v := .pointer (some ⟨w.heap.size, 0, none⟩)) (w' := push w (.cells v.cells T)) ?_ ?_
 ·simp only [execOp, ho, f5Y, Instr.alloc, hrun, f5V, a9P, f5Z]
 ·have hnb := Rel.newBlock h (mem0 := st.mem) (fun _ _ hg => hg) (kb + d) hF (.box (a7H P (kb + d) T z)) none (.cells v.cells T) (a6y _ w _) rfl fun S' hkeep => by
   obtain ⟨i', v', hi', hz', hr', _, _⟩ := a3F (env := upd env (kb + d) ⟨w.heap.size, 0, none⟩) (S := S') (w := push w (.cells v.cells T)) hz
   obtain ⟨i2, v2, hi2, hz2, _, hrun2, _⟩ := a3F (env := env) (S := S') (w := w) hz
   have hvv : v' = v := by
    rw [hrun] at hrun2
    have : v = v2 := by simpa using hrun2
    rw [hi'] at hi2; simp only [f5S] at hi2; subst hi2
    rw [hz'] at hz2; simp only [f5S] at hz2
    rw [hz2, ← this]
   subst hvv
   have hl := hr'.length
   exact ⟨v'.cells, T, a9O, by rw [b9B]; simp at hl ⊢; omega, (c7q hr').self_take, d2t (by simpa using hl) (c9P hz)⟩
  rw [hdst]
  refine ⟨_, _, hnb.put (v := .pointer (some ⟨w.heap.size, 0, none⟩)) (fun _ hdd => by cases hdd; exact hd) ?_, hk⟩
  simp [a0w, a0G, a0x, upd]
theorem d4T {R : Type} {d : Nat} {T : TypeId} {x : Operand} {cs : List C} {k : St → Option R} {r : R} {o : Oper} {Q : Exit → Act → World → Prop} (h : Rel P N n0 B M0 w0 F e0 env st a w) (hd : d < N) (hF : ¬ F (kb + d)) (ho : o.op = .box T x) (hdst : o.dst = some d)
  (hz : a2o P T (evu st x) = some cs) (hk : k ((a0L (kb + d) (.box (cs.map (inval (kb + d)))) st).put (some d) (.c (.p (kb + d) 0))) = some r) : o.wp P a w (a1d P N n0 B M0 w0 F e0 k r) Q := by
 obtain ⟨h1, h2, h3, _⟩ := a4k (h.evu x) hz
 refine a0X (v := .pointer (some ⟨w.heap.size, 0, none⟩)) (w' := push w (.cells (a.eval x).cells T)) ?_ ?_
 ·simp only [execOp, ho, f5Y, Instr.box, f5V, a9P, f5Z]
 ·have hnb := Rel.newBlock h (mem0 := st.mem) (fun _ _ hg => hg) (kb + d) hF (.box (cs.map (inval (kb + d)))) none (.cells (a.eval x).cells T) (a6y _ w _) rfl fun S' hkeep => by
   have hl := h1.length
   refine ⟨(a.eval x).cells, T, a9O, by simp at hl ⊢; omega, ?_, a5i (fun _ => a7d) (a63 hz)⟩
   have h1' : a0B (a0x P (upd env (kb + d) ⟨w.heap.size, 0, none⟩) S' (push w (.cells (a.eval x).cells T))) (cs.map (inval (kb + d))) (a.eval x).cells.toList :=
    h1.mapl fun c u _ hcu => a0x.inval hkeep (kb + d) (fun k hk => by simp [upd, hk]) hcu
   exact h1'.self_take
  rw [hdst]
  refine ⟨_, _, hnb.put (v := .pointer (some ⟨w.heap.size, 0, none⟩)) (fun _ hdd => by cases hdd; exact hd) ?_, hk⟩
  simp [a0w, a0G, a0x, upd]

theorem Rel.share1 (h : Rel P N n0 B M0 w0 F e0 env st a w) (key : Nat) {o : Obj} (hg : get st.mem key = some o) : Rel P N n0 B M0 w0 F e0 env { st with mem := set st.mem key (c0b o) } a w := by
 cases o with
 | row e ex nl xs =>
  by_cases hn : nl = false
  ·subst hn
   refine Rel.upd h hg (fun _ _ => False) (Chg.refl _ w) (fun _ _ hf => hf.elim) ?_ (fun _ => rfl) (fun _ _ => rfl) rfl ?_ ?_
   ·intro b x hm
    obtain ⟨_, h1, h2⟩ := hm
    rcases h2 with h2 | h2
    ·cases h2
    ·exact ⟨rfl, h1, .inr h2⟩
   ·intro S' hk
    exact a5j hk (fun _ => rfl) (h.ob _ _ hg) false
   ·intro e' ex' xs' he x hx
    simp only [c0b, Obj.row.injEq] at he
    obtain ⟨rfl, _, _, rfl⟩ := he
    exact h.pr key _ ex _ hg x hx
  ·have hnt : nl = true := by cases nl <;> simp at hn ⊢
   subst hnt
   -- a nil row owns nothing
   have hget : ∀ k ob, get (set st.mem key (c0b (.row e ex true xs))) k = some ob → (k = key ∧ ob = .row e false true xs) ∨ (k ≠ key ∧ get st.mem k = some ob) := by
    intro k ob hgk
    rw [a2q] at hgk
    by_cases hk : k = key
    ·rw [if_pos hk] at hgk; simp only [f5S, c0b] at hgk; exact .inl ⟨hk, hgk.symm⟩
    ·rw [if_neg hk] at hgk; exact .inr ⟨hk, hgk⟩
   refine Rel.step h (fun _ _ => False) (Chg.refl _ w) (fun _ _ hf => hf.elim) ?_ ?_ ?_ ?_ ?_ (fun _ _ => rfl)
   ·intro k ob b x hgk hm
    rcases hget k ob hgk with ⟨rfl, rfl⟩ | ⟨_, hgk⟩
    ·cases hm.1
    ·exact .inr ⟨k, ob, hgk, hm⟩
   ·intro hk t x hx; exact a0w.mono hk (fun _ => rfl) (h.tm t x hx)
   ·intro hk k ob hgk
    rcases hget k ob hgk with ⟨rfl, rfl⟩ | ⟨_, hgk⟩
    ·exact a5j hk (fun hf => by cases hf) (h.ob _ _ hg) false
    ·exact a1H hk (fun _ => rfl) (h.ob k ob hgk)
   ·intro k k' o1 o2 hg1 hg2 hr1 hr2 hne
    rcases hget k o1 hg1 with ⟨rfl, rfl⟩ | ⟨_, q1⟩
    ·cases hr1
    ·rcases hget k' o2 hg2 with ⟨rfl, rfl⟩ | ⟨_, q2⟩
     ·cases hr2
     ·exact h.ds k k' o1 o2 q1 q2 hr1 hr2 hne
   ·intro k e' ex' xs' hgk x hx
    rcases hget k _ hgk with ⟨rfl, he⟩ | ⟨_, q⟩
    ·cases he
    ·exact h.pr k e' ex' xs' q x hx
 | box cs =>
  refine Rel.upd h hg (fun _ _ => False) (Chg.refl _ w) (fun _ _ hf => hf.elim) (fun _ _ hm => hm) (fun hr => hr) (fun _ _ => rfl) trivial ?_ ?_
  ·intro S' hk; exact a1H hk (fun _ => rfl) (h.ob _ _ hg)
  ·intro e ex xs he; cases he
 | map kt vt es =>
  refine Rel.upd h hg (fun _ _ => False) (Chg.refl _ w) (fun _ _ hf => hf.elim) (fun _ _ hm => hm) (fun hr => hr) (fun _ _ => rfl) trivial ?_ ?_
  ·intro S' hk; exact a1H hk (fun _ => rfl) (h.ob _ _ hg)
  ·intro e ex xs he; cases he
 | tab kt vt es =>
  refine Rel.upd h hg (fun _ _ => False) (Chg.refl _ w) (fun _ _ hf => hf.elim) (fun _ _ hm => hm) (fun hr => hr) (fun _ _ => rfl) trivial ?_ ?_
  ·intro S' hk; exact a1H hk (fun _ => rfl) (h.ob _ _ hg)
  ·intro e ex xs he; cases he
 | dat T d =>
  refine Rel.upd h hg (fun _ _ => False) (Chg.refl _ w) (fun _ _ hf => hf.elim) (fun _ _ hm => hm) (fun hr => hr) (fun _ _ => rfl) trivial ?_ ?_
  ·intro S' hk; exact a1H hk (fun _ => rfl) (h.ob _ _ hg)
  ·intro e ex xs he; cases he
theorem Rel.share : ∀ (ks : List Nat) {mem : AL Obj}, Rel P N n0 B M0 w0 F e0 env { st with mem := mem } a w → Rel P N n0 B M0 w0 F e0 env { st with mem := a0J mem ks } a w
 | [], _, h => h
 | k :: ks, mem, h => by
  simp only [a0J]
  cases hg : get mem k with
  | none => exact Rel.share ks h
  | some o => exact Rel.share ks (Rel.share1 h k hg)
theorem e9r (m : AL Obj) (x : Operand) : AM.ev { st with mem := m } x = AM.ev st x := by cases x <;> rfl
theorem a8V (m : AL Obj) (x : Operand) : AM.evu { st with mem := m } x = AM.evu st x := by unfold AM.evu; rw [e9r]
end
end Go.AM

namespace Go.AM
open Go

theorem b4k {α : Type} (l vs : List α) (o j : Nat) (h : o + vs.length ≤ l.length) : (l.take o ++ vs ++ l.drop (o + vs.length))[j]? = if o ≤ j ∧ j < o + vs.length then vs[j - o]? else l[j]? := by
 have hl : (l.take o).length = o := by rw [List.length_take]; omega
 by_cases h1 : j < o
 ·rw [if_neg (by omega), List.append_assoc, List.getElem?_append_left (by omega), List.getElem?_take, if_pos h1]
 ·by_cases h2 : j < o + vs.length
  ·rw [if_pos (by omega), List.append_assoc, List.getElem?_append_right (by omega), hl, List.getElem?_append_left (by omega)]
  ·rw [if_neg (by omega), List.getElem?_append_right (by simp; omega), List.getElem?_drop]
   congr 1
   simp only [List.length_append, hl]; omega
theorem e5C {α : Type} (l vs : List α) (base off n : Nat) (h : off + vs.length ≤ n) (hn : base + n ≤ l.length) :
  ((l.take (base + off) ++ vs ++ l.drop (base + off + vs.length)).drop base).take n = ((l.drop base).take n).take off ++ vs ++ ((l.drop base).take n).drop (off + vs.length) := by
 apply List.ext_getElem?
 intro j
 rw [b4k _ _ _ _ (by rw [List.length_take, List.length_drop]; omega), List.getElem?_take]
 by_cases hj : j < n
 ·rw [if_pos hj, List.getElem?_drop, b4k _ _ _ _ (by omega)]
  by_cases h1 : off ≤ j ∧ j < off + vs.length
  ·rw [if_pos h1, if_pos (by omega)]; congr 1; omega
  ·rw [if_neg h1, if_neg (by omega), List.getElem?_take, if_pos hj, List.getElem?_drop]
 ·rw [if_neg hj, if_neg (by omega), List.getElem?_take, if_neg hj]
theorem c0l {α : Type} (l vs : List α) (o : Nat) (h : o + vs.length ≤ l.length) : (l.take o ++ vs ++ l.drop (o + vs.length)).length = l.length := by simp; omega
theorem a0B.set {α β : Type} {R : α → β → Prop} {xs : List α} {ys : List β} (h : a0B R xs ys) (i : Nat) {x : α} {y : β} (hxy : R x y) : a0B R (xs.set i x) (ys.set i y) :=
 .of_get (by simp [h.length]) fun j a b ha hb => by
  rw [List.getElem?_set] at ha hb
  split at ha
  ·rename_i hij
   rw [if_pos hij] at hb
   split at ha
   ·rw [if_pos (by rw [← h.length]; assumption)] at hb
    simp only [f5S] at ha hb
    subst ha hb
    exact hxy
   ·cases ha
  ·rename_i hij
   rw [if_neg hij] at hb
   exact h.get2 ha hb
theorem a0B.setl {α β : Type} {R : α → β → Prop} {xs : List α} {ys : List β} (h : a0B R xs ys) (i : Nat) {x : α} (hx : ∀ y, ys[i]? = some y → R x y) : a0B R (xs.set i x) ys :=
 .of_get (by simp [h.length]) fun j a b ha hb => by
  rw [List.getElem?_set] at ha
  split at ha
  ·rename_i hij
   split at ha
   ·simp only [f5S] at ha
    subst ha hij
    exact hx b hb
   ·cases ha
  ·exact h.get2 ha hb
section
variable {P : Program} {N n0 kb : Nat} {F : Nat → Prop} {B M0 : a0Q} {w0 : World} {e0 : b0H} {env : Env} {st : St} {a : Act} {w : World}
theorem b16 {S : a0Q} {x : C} {u : Value} (hx : a0x P env S w x u) {base esz ix : Nat} (hesz : 0 < esz) : ∀ {n j : Nat} {cs cs' : List C} {us : List Value}, a0B (a0x P env S w) cs us → storeAt cs base esz ix x n j = some cs' →
  a0B (a0x P env S w) cs' (if j ≤ ix ∧ ix < j + n then us.set (base + ix * esz) u else us) ∧ cs'.length = cs.length ∧ ∀ i, j ≤ i → i < j + n → base + i * esz < cs.length
 | 0, j, cs, cs', us, hr, h => by
  simp only [storeAt, f5S] at h
  subst h
  rw [if_neg (by omega)]
  exact ⟨hr, rfl, fun i h1 h2 => by omega⟩
 | n + 1, j, cs, cs', us, hr, h => by
  simp only [storeAt] at h
  split at h
  ·rename_i cs1 hcs1
   obtain ⟨h1, h2, h3⟩ := b16 hx hesz hr hcs1
   split at h
   ·rename_i y hy
    simp only [f5S] at h
    have hlt : base + j * esz < cs1.length := (f55.1 hy).1
    subst h
    refine ⟨?_, by simp [h2], fun i hi1 hi2 => ?_⟩
    ·by_cases hij : ix = j
     ·subst hij
      rw [if_pos (by omega)]
      rw [if_neg (by omega)] at h1
      have hb : Nat.beq ix ix = true := by simp
      rw [hb]
      refine h1.set _ ?_
      unfold e5q
      cases hk : a6u x y with
      | false => exact hx
      | true =>
       simp only
       cases x <;> cases y <;> simp only [a6u] at hk <;> try (cases hk; done)
       all_goals simpa [e5p, a0x] using hx
     ·have hb : Nat.beq ix j = false := by rw [a0v]; simpa using hij
      rw [hb]
      have hcond : (j ≤ ix ∧ ix < j + (n + 1)) ↔ (j + 1 ≤ ix ∧ ix < j + 1 + n) := by omega
      simp only [hcond]
      refine h1.setl _ fun v hv => ?_
      have hyv := h1.get2 hy hv
      unfold e5q
      cases hk : a6u x y with
      | false => exact hyv
      | true =>
       simp only
       cases x <;> cases y <;> simp only [a6u] at hk <;> try (cases hk; done)
       all_goals first
        | (have hkk := eq_of_beq hk; subst hkk; simpa [e5p, a0x] using hyv)
        | simpa [e5p, a0x] using hyv
    ·by_cases hij : i = j
     ·subst hij; rw [← h2]; exact hlt
     ·exact h3 i (by omega) (by omega)
   ·cases h
  ·cases h
theorem a5y {blk : Nat} {cur cur' : Array Value} {T : TypeId} {fr : Nat × Nat} {Mt : a0Q} (hg : w.heap[blk]? = some (.cells cur T fr)) (hs : cur'.size = cur.size) (hM : ∀ o, ¬ Mt blk o → cur'[o]? = cur[o]?) : Chg Mt w (w.setRow blk cur') := by
 refine ⟨rfl, rfl, rfl, by simp, ?_, ?_⟩
 ·intro b c T' fr' hb
  by_cases hbb : b = blk
  ·subst hbb
   rw [hg] at hb
   simp only [f5S, Go.Obj.cells.injEq] at hb
   obtain ⟨rfl, rfl, rfl⟩ := hb
   exact ⟨cur', fr, setRow_heap w b cur cur' T fr hg, hs, hM, .inl rfl⟩
  ·exact ⟨c, fr', by rw [setRow_other w blk b cur' hbb]; exact hb, rfl, fun _ _ => rfl, .inl rfl⟩
 ·intro b ob hb hno
  by_cases hbb : b = blk
  ·subst hbb
   rw [hg] at hb
   simp only [f5S] at hb
   subst hb
   rw [setRow_heap w b cur cur' T fr hg]
   have : cur' = cur := Array.ext_getElem? fun o => hM o (hno o)
   rw [this]
  ·rw [setRow_other w blk b cur' hbb]; exact hb
theorem a4K {cur : Array Value} {vs : List Value} {o : Nat} (h : o + vs.length ≤ cur.size) (j : Nat) : ((cur.toList.take o ++ vs ++ cur.toList.drop (o + vs.length)).toArray)[j]? = if o ≤ j ∧ j < o + vs.length then vs[j - o]? else cur[j]? := by
 rw [List.getElem?_toArray, b4k _ _ _ _ (by simpa using h)]
 simp
theorem a1q (P : Program) (g o : Nat) (t : TypeId) (fz : Nat × Nat) : ∀ (vs : List Value) (i : Nat) (cur : Array Value) (w : World), w.heap[g]? = some (.cells cur t fz) → e30 fz cur.size → o + i + vs.length ≤ cur.size → (∀ v ∈ vs, v.oneCell' = true) →
  (storeCells ⟨g, o, none⟩ vs i).run P w = .ok () (w.setRow g (cur.toList.take (o + i) ++ vs ++ cur.toList.drop (o + i + vs.length)).toArray)
 | [], i, cur, w, hg, _, _, _ => by
  simp only [storeCells, List.append_nil, List.length_nil, Nat.add_zero, List.take_append_drop, Array.toArray_toList]
  rw [setRow_self w g cur t fz hg]
  rfl
 | v :: rest, i, cur, w, hg, hfz, hl, h1 => by
  have hi : o + i < cur.size := by simp at hl; omega
  have hadd : (⟨g, o, none⟩ : Addr).add i = ⟨g, o + i, none⟩ := by unfold Addr.add; split <;> simp_all
  have hcell : w.cell? ⟨g, o + i, none⟩ = some cur[o + i] := by simp [World.cell?, hg, hi]
  have hfro : w.frozen? ⟨g, o + i, none⟩ = false := by
   rcases hfz with rfl | hfz
   ·simp [World.frozen?, hg]
   ·obtain ⟨lo, hi'⟩ := fz
    simp only [World.frozen?, hg, Bool.and_eq_false_iff, decide_eq_false_iff_not]
    left
    simp only at hfz
    omega
  have hst : (store ((⟨g, o, none⟩ : Addr).add i) v).run P w = .ok () (w.setRow g (cur.setIfInBounds (o + i) v)) := by
   rw [hadd, run_store P w _ v _ (h1 v (by simp)), hcell]
   simp [hfro, setCell_eq_setRow w g (o + i) cur t fz v hg]
  have ih := a1q P g o t fz rest (i + 1) (cur.setIfInBounds (o + i) v) (w.setRow g (cur.setIfInBounds (o + i) v)) (setRow_heap w g cur _ t _ hg) (by simpa using hfz) (by simp at hl ⊢; omega) (fun x hx => h1 x (by simp [hx]))
  simp only [storeCells, f5Y, hst, f5V, ih, setRow_setRow]
  congr 3
  have e := list_seg_step cur.toList (o + i) v rest (by simp at hl ⊢; omega)
  simpa [Array.toList_setIfInBounds, Nat.add_assoc] using e
theorem b5P (w : World) (t ty e : TypeId) (i : TypeInfo) (ht : P.underlying t = some (.slice e)) (hi : P.info? e = some i)
  (g sLen sCap : Nat) (cur : Array Value) (fz : Nat × Nat) (hg : w.heap[g]? = some (.cells cur e fz)) (hfz : e30 fz cur.size)
  (a : Addr) (m c : Nat) (news : List Value) (hl : news.length = m * i.size) (hnews : ∀ j u, news[j]? = some u → w.cell? (a.add j) = some u) (h1 : ∀ u ∈ news, u.oneCell' = true)
  (hroom : sLen + m ≤ sCap) (hfit : sLen * i.size + news.length ≤ cur.size) :
  (Builtin.append_ #[t, t] ty #[.slice (some ⟨g, 0, none⟩) sLen sCap, .slice (some a) m c]).run P w =
   .ok (.slice (some ⟨g, 0, none⟩) (sLen + m) sCap) (w.setRow g (cur.toList.take (sLen * i.size) ++ news ++ cur.toList.drop (sLen * i.size + news.length)).toArray) := by
 have hf := run_firstCells_some (P := P) w i.size m a m c news hl hnews
 have hst := a1q P g (sLen * i.size) e fz news 0 cur w hg hfz (by simpa using hfit) h1
 simp only [Nat.add_zero] at hst
 simp [Builtin.append_, run_underlying ht, sizeOf, typeInfo, hi, Builtin.lenOf, hroom, hf, Addr.add_lit, hst]
theorem b17 {b : Nat} {cur cur' : Array Value} {e : TypeId} {fr : Nat × Nat} (hfr : e30 fr cur.size) (h2 : w.heap[b]? = some (.cells cur e fr)) (hs : cur'.size = cur.size) : b7T (w.setRow b cur') b cur' e :=
 ⟨fr, by rw [hs]; exact hfr, setRow_heap w b cur cur' e fr h2⟩
theorem a5L {T : TypeId} {vx : Value} {blk o : Nat} {cur : Array Value} {E : TypeId} {fz : Nat × Nat} (hg : w.heap[blk]? = some (.cells cur E fz)) (hfz : e30 fz cur.size) (hs : vx.cells.size = a0d P T) (hne : a0d P T ≠ 0) (h1 : ∀ u ∈ vx.cells.toList, u.oneCell' = true) (hl : o + vx.cells.toList.length ≤ cur.size) :
  (Instr.storeAt T (.pointer (some ⟨blk, o, none⟩)) vx).run P w = .ok () (w.setRow blk (cur.toList.take o ++ vx.cells.toList ++ cur.toList.drop (o + vx.cells.toList.length)).toArray) := by
 have := a1q P blk o E fz vx.cells.toList 0 cur w hg hfz (by simpa using hl) h1
 simp only [Nat.add_zero] at this
 simp only [Instr.storeAt, Instr.sureAddr, f5Y, f5Z, f5V, storeVar, a7M (a8O hne), hs, ne_eq, not_true_eq_false, if_false, this]
theorem c4P {key : Nat} {cs cs' : List C} {o : Nat} {vs : List Value} (h : Rel P N n0 B M0 w0 F e0 env st a w) (hg : get st.mem key = some (.box cs)) {cur : Array Value} {E : TypeId} (hh : w.heap[(env key).blk]? = some (.cells cur E (0, 0))) (hsz : (env key).base + cs.length ≤ cur.size)
  (hlen : cs'.length = cs.length) (hin : o + vs.length ≤ cs.length) (hnb : ∀ c ∈ cs', a6v P E cur.size c)
  (hr : ∀ S' w', a0O w (Sof P B M0 n0 env st.mem w) w' S' → a0B (a0x P env S' w') cs' (((cur.toList.drop (env key).base).take cs.length).take o ++ vs ++ ((cur.toList.drop (env key).base).take cs.length).drop (o + vs.length))) :
  Rel P N n0 B M0 w0 F e0 env { st with mem := set st.mem key (.box cs') } a (w.setRow (env key).blk (cur.toList.take ((env key).base + o) ++ vs ++ cur.toList.drop ((env key).base + o + vs.length)).toArray) := by
 have hfit : (env key).base + o + vs.length ≤ cur.size := by omega
 refine Rel.upd h hg (fun b x => b = (env key).blk ∧ (env key).base + o ≤ x ∧ x < (env key).base + o + vs.length) ?_ ?_ ?_ (fun _ => trivial) ?_ trivial ?_ ?_
 ·refine a5y hh (by simp; omega) fun x hx => ?_
  rw [a4K hfit, if_neg (fun hc => hx ⟨rfl, hc⟩)]
 ·rintro b x ⟨rfl, h1, h2⟩; exact ⟨rfl, by omega, by omega⟩
 ·rintro b x ⟨rfl, h1, h2⟩; exact ⟨rfl, h1, by omega⟩
 ·intro b hb; exact setRow_other _ _ _ _ hb
 ·intro S' hk
  have hsame : (cur.toList.take ((env key).base + o) ++ vs ++ cur.toList.drop ((env key).base + o + vs.length)).toArray.size = cur.size := by simp; omega
  refine ⟨_, E, setRow_heap w _ cur _ E _ hh, by simp; omega, ?_, by rw [hsame]; exact hnb⟩
  have := hr S' _ hk
  rw [hlen]
  show a0B _ cs' (((cur.toList.take ((env key).base + o) ++ vs ++ cur.toList.drop ((env key).base + o + vs.length)).drop (env key).base).take cs.length)
  rw [e5C _ _ _ _ _ hin (by simpa using hsz)]
  exact this
 ·intro e ex xs he; cases he
end
end Go.AM

namespace Go.AM
open Go

section
variable {P : Program} {N n0 kb : Nat} {F : Nat → Prop} {B M0 : a0Q} {w0 : World} {e0 : b0H} {env : Env} {st : St} {a : Act} {w : World}
theorem d4U {key ix : Nat} {e : TypeId} {nl : Bool} {xs : List D} {off : Nat} {new : List C} {d : D} {vs : List Value} (h : Rel P N n0 B M0 w0 F e0 env st a w) (hg : get st.mem key = some (.row e true nl xs)) (hix : ix < xs.length)
  (hoff : off + new.length ≤ (kinds P e).length) (hnew : a0B (a0x P env (Sof P B M0 n0 env st.mem w) w) new vs) (hd : d4h P st.mem e (a4H (a0Z P e (xs.getD ix (.i 0))) off new) = some d) :
  ∃ cur E fr, w.heap[(env key).blk]? = some (.cells cur E fr) ∧ e30 fr cur.size ∧ ix * a0d P e + off + vs.length ≤ cur.size ∧
   Rel P N n0 B M0 w0 F e0 env { st with mem := set st.mem key (.row e true nl (xs.set ix d)) } a (w.setRow (env key).blk (cur.toList.take (ix * a0d P e + off) ++ vs ++ cur.toList.drop (ix * a0d P e + off + vs.length)).toArray) := by
 have hrow := h.ob _ _ hg
 obtain ⟨us, hus1, hus2⟩ := e31 hrow hix
 obtain ⟨h0, ⟨_, rfl, _⟩ | ⟨hn, hb, cap, cur, h1, h2, h3, h4, h5, h6⟩⟩ := hrow
 ·simp at hix
 ·subst hn
  obtain ⟨fr, hfr, h2⟩ := h2
  have hvl := hnew.length
  have hcell : ix * a0d P e + (kinds P e).length ≤ cur.size := by
   rw [h5, ← h0]
   have : (ix + 1) * a0d P e ≤ cap * a0d P e := Nat.mul_le_mul_right _ (by omega)
   rw [Nat.add_mul, Nat.one_mul] at this
   omega
  have hfit : ix * a0d P e + off + vs.length ≤ cur.size := by omega
  refine ⟨cur, e, fr, h2, hfr, hfit, ?_⟩
  refine Rel.upd h hg (fun b x => b = (env key).blk ∧ ix * a0d P e + off ≤ x ∧ x < ix * a0d P e + off + vs.length) ?_ ?_ ?_ (fun hr => hr) ?_ rfl ?_ ?_
  ·refine a5y h2 (by simp; omega) fun x hx => ?_
   rw [a4K hfit, if_neg (fun hc => hx ⟨rfl, hc⟩)]
  ·rintro b x ⟨rfl, _, _⟩; exact ⟨rfl, rfl, .inl rfl⟩
  ·rintro b x ⟨_, h7, _⟩; exact ⟨rfl, h7, .inl rfl⟩
  ·intro b hb; exact setRow_other _ _ _ _ hb
  ·intro S' hk
   refine ⟨h0, .inr ⟨rfl, hb, cap, _, by rw [List.length_set]; exact h1, b17 hfr h2 (by simp; omega), by rw [List.length_set]; exact h3, h4, by rw [← h5]; simp; omega, ?_⟩⟩
   intro i j kk hi hkk
   rw [List.length_set] at hi
   have hj : j < (kinds P e).length := (f55.1 hkk).1
   obtain ⟨u0, hu0, hr0⟩ := h6 i j kk hi hkk
   by_cases hii : i = ix
   ·subst hii
    have hgd : (xs.set i d).getD i (.i 0) = d := by
     rw [f51, List.getElem?_set_self hix]; rfl
    rw [hgd]
    -- the cells of the element, the new ones laid over the old
    have hul : us.length = (kinds P e).length := by rw [← hus2.length, a62]
    have hall : a0B (a0x P env (Sof P B M0 n0 env st.mem w) w) (a4H (a0Z P e (xs.getD i (.i 0))) off new) (us.take off ++ vs ++ us.drop (off + vs.length)) := b4h hus2 hnew
    have hcells : (kinds P e).length = (us.take off ++ vs ++ us.drop (off + vs.length)).length ∧ ∀ (j : Nat) (k : CK), (kinds P e)[j]? = some k → ∃ u, (us.take off ++ vs ++ us.drop (off + vs.length))[j]? = some u ∧ a2e P w (Sof P B M0 n0 env st.mem w) k (elD P e d j) u := by
     unfold d4h at hd
     cases ha : a0j P e with
     | true =>
      rw [ha] at hd
      simp only [cond_true] at hd
      have := a7f (x := .g (a4H (a0Z P e (xs.getD i (.i 0))) off new)) (v := .agg (us.take off ++ vs ++ us.drop (off + vs.length)).toArray) h.ob h.rows ⟨_, rfl, by simpa using hall⟩ hd
      simpa [Value.cells] using this
     | false =>
      rw [ha] at hd
      simp only [cond_false] at hd
      have hone := c4C ha
      have hone' : (us.take off ++ vs ++ us.drop (off + vs.length)).length = us.length := c0l _ _ _ (by omega)
      split at hd
      ·rename_i c hc
       rw [hc] at hall
       match hz : (us.take off ++ vs ++ us.drop (off + vs.length)), hall with
       | [u], hall' =>
        have := a7f (v := u) h.ob h.rows (show a0G P env _ w (.c c) u from hall'.1) hd
        have hcu : u.cells = #[u] := by
         unfold asD at hd
         rw [ha] at hd
         simp only [cond_false] at hd
         split at hd
         ·rename_i c' k' e1 e2
          cases e1
          have := b14 h.ob h.rows hall'.1 hd
          cases this <;> first | rfl | exact b7S _
         ·cases hd
        rw [hcu] at this
        simpa using this
      ·simp [asD, ha] at hd
    obtain ⟨u, hu, hru⟩ := hcells.2 j kk hkk
    refine ⟨u, ?_, hru.mono hk⟩
    rw [a4K hfit]
    rw [b4k _ _ _ _ (by omega)] at hu
    by_cases hin : off ≤ j ∧ j < off + vs.length
    ·rw [if_pos hin] at hu
     rw [if_pos (by omega), ← hu]; congr 1; omega
    ·rw [if_neg hin] at hu
     rw [if_neg (by omega)]
     have := hus1 j u hu
     obtain ⟨c2, _, _, g1, g2⟩ := a7e this
     rw [h2] at g1
     simp only [f5S, Go.Obj.cells.injEq] at g1
     rw [g1.1]; exact g2
   ·have hgd : (xs.set ix d).getD i (.i 0) = xs.getD i (.i 0) := by
     rw [f51, List.getElem?_set_ne (Ne.symm hii), f51]
    rw [hgd]
    refine ⟨u0, ?_, hr0.mono hk⟩
    rw [a4K hfit, if_neg ?_]
    ·exact hu0
    ·intro hc
     rcases Nat.lt_or_gt_of_ne hii with hlt | hgt
     ·have := b73 (s := a0d P e) (j := j) hlt (by rw [h0]; exact hj)
      omega
     ·have h7 : (ix + 1) * a0d P e ≤ i * a0d P e := Nat.mul_le_mul_right _ hgt
      rw [Nat.add_mul, Nat.one_mul] at h7
      omega
  ·intro e' ex xs' he x hx
   simp only [Obj.row.injEq] at he
   obtain ⟨rfl, rfl, _, rfl⟩ := he
   exact h.pr key _ _ xs hg x (by simpa using hx)
theorem b18 : ∀ (cs : List D) (j : Nat) (x : D) (i : Nat), (d39 cs j x).getD i (.i 0) = if i = j then x else cs.getD i (.i 0)
 | [], 0, x, i => by cases i <;> simp [d39]
 | [], j + 1, x, i => by
  cases i with
  | zero => simp [d39]
  | succ i => simpa [d39] using b18 [] j x i
 | c :: r, 0, x, i => by cases i <;> simp [d39]
 | c :: r, j + 1, x, i => by
  cases i with
  | zero => simp [d39]
  | succ i => simpa [d39] using b18 r j x i
theorem e0B (d : D) (j : Nat) (x : D) (i : Nat) : (d.put j x).cell i = if i = j then x else d.cell i := by
 cases d with
 | a cs => exact b18 cs j x i
 | _ =>
  show (d39 [] j x).getD i (.i 0) = _
  rw [b18]
  by_cases h : i = j <;> simp [h, D.cell]
theorem c4Q : ∀ (ds : List D) (d : D) (c s i : Nat), (e87 d c s ds).cell i = if c + s ≤ i ∧ i < c + s + ds.length then ds.getD (i - (c + s)) (.i 0) else d.cell i
 | [], d, c, s, i => by rw [if_neg (by simp)]; rfl
 | x :: r, d, c, s, i => by
  simp only [e87, c4Q r, e0B, List.length_cons]
  by_cases h0 : i = c + s
  ·subst h0
   rw [if_neg (by omega), if_pos rfl, if_pos (by omega)]
   simp
  ·by_cases h1 : c + 1 + s ≤ i ∧ i < c + 1 + s + r.length
   ·rw [if_pos h1, if_pos (by omega), show i - (c + s) = (i - (c + 1 + s)) + 1 by omega]
    simp
   ·rw [if_neg h1, if_neg h0, if_neg (by omega)]
theorem b8d {mem : AL Obj} : ∀ {ks : List CK} {cs : List C} {ds : List D}, c9t mem ks cs = some ds → ds.length = cs.length
 | [], [], ds, h => by simp only [c9t, f5S] at h; subst h; rfl
 | [], _ :: _, ds, h => by simp [c9t] at h
 | _ :: _, [], ds, h => by simp [c9t] at h
 | k :: ks, c :: cs, ds, h => by
  simp only [c9t] at h
  split at h
  ·split at h
   ·rename_i ds' hds
    simp only [f5S] at h
    subst h
    simp [b8d hds]
   ·cases h
  ·cases h
theorem c4R {key : Nat} {T' : TypeId} {d : D} {c s o : Nat} {ds : List D} {new : List C} {vs : List Value} (h : Rel P N n0 B M0 w0 F e0 env st a w) (hg : get st.mem key = some (.dat T' d)) (hcs : c + s = o) (hpos : 0 < vs.length) (hnew : a0B (a0x P env (Sof P B M0 n0 env st.mem w) w) new vs)
  (hf : c9t st.mem (c7f P T' o new.length) new = some ds) :
  ∃ cur E, w.heap[(env key).blk]? = some (.cells cur E (0, 0)) ∧ (env key).base = 0 ∧ o + vs.length ≤ cur.size ∧
   Rel P N n0 B M0 w0 F e0 env { st with mem := set st.mem key (.dat T' (e87 d c s ds)) } a (w.setRow (env key).blk (cur.toList.take o ++ vs ++ cur.toList.drop (o + vs.length)).toArray) := by
 obtain ⟨hb, cur, E, h1, h2, h3⟩ := h.ob _ _ hg
 obtain ⟨f1, f2⟩ := b4i h.ob h.rows hnew hf
 have hvl := hnew.length
 have hseg : ∀ j, j < vs.length → ∃ k, (c7f P T' o new.length)[j]? = some k := fun j hj => ⟨_, f58 (by omega)⟩
 have hdl : ds.length = vs.length := (b8d hf).trans hvl
 have hfit : o + vs.length ≤ cur.size := by
  obtain ⟨k, hk⟩ := hseg (vs.length - 1) (by omega)
  have := (f55.1 (c1N hk).1).1
  omega
 refine ⟨cur, E, h1, hb, hfit, ?_⟩
 refine Rel.upd h hg (fun b x => b = (env key).blk ∧ o ≤ x ∧ x < o + vs.length) ?_ ?_ ?_ (fun hr => hr) ?_ trivial ?_ ?_
 ·refine a5y h1 (by simp; omega) fun x hx => ?_
  rw [a4K hfit, if_neg (fun hc => hx ⟨rfl, hc⟩)]
 ·rintro b x ⟨rfl, _, _⟩; exact rfl
 ·rintro b x hm; exact hm
 ·intro b hb'; exact setRow_other _ _ _ _ hb'
 ·intro S' hk
  refine ⟨hb, _, E, setRow_heap w _ cur _ E _ h1, by simp; omega, ?_⟩
  intro j k hkk
  rw [a4K hfit, c4Q, hcs, hdl]
  by_cases hin : o ≤ j ∧ j < o + vs.length
  ·rw [if_pos hin, if_pos hin]
   obtain ⟨k', hk'⟩ := hseg (j - o) (by omega)
   have hkk' := (c1N hk').1
   rw [show o + (j - o) = j by omega, hkk] at hkk'
   cases hkk'
   obtain ⟨u, hu, hr⟩ := f2 (j - o) k hk'
   exact ⟨u, hu, hr.mono hk⟩
  ·rw [if_neg hin, if_neg hin]
   obtain ⟨u, hu, hr⟩ := h3 j k hkk
   exact ⟨u, hu, hr.mono hk⟩
 ·intro e ex xs he; cases he
theorem c7s {R : Type} {T : TypeId} {ad x : Operand} {mem' : AL Obj} {k : St → Option R} {r : R} {o : Oper} {Q : Exit → Act → World → Prop} (h : Rel P N n0 B M0 w0 F e0 env st a w) (hd : ∀ d, o.dst = some d → d < N) (ho : o.op = .store T ad x)
  (hs : d4i P st.mem T (evu st ad) (evu st x) = some (true, mem')) (hk : k (St.put { st with mem := mem' } o.dst (.c .u)) = some r) : o.wp P a w (a1d P N n0 B M0 w0 F e0 k r) Q := by
 unfold d4i at hs
 split at hs
 ·cases hs
 ·rename_i new hnew
  obtain ⟨h1, h2, h3, h4⟩ := a4k (h.evu x) hnew
  have hne : a0d P T ≠ 0 := by
   unfold a2o at hnew
   simp only at hnew
   cases hb : Nat.beq (a4Y (kinds P T) (a5F (evu st x))).length (a0d P T) && a3w (a4Y (kinds P T) (a5F (evu st x))) && !(a4Y (kinds P T) (a5F (evu st x))).isEmpty with
   | false => rw [hb] at hnew; cases hnew
   | true =>
    simp only [f5U] at hb
    have hl := f5T hb.1.1
    intro hz
    rw [hz] at hl
    have : (a4Y (kinds P T) (a5F (evu st x))) = [] := List.eq_nil_of_length_eq_zero hl
    rw [this] at hb
    cases hb.2
  have hvl := h1.length
  have had := h.evu ad
  have fin : ∀ {w' : World}, (Instr.storeAt T (a.eval ad) (a.eval x)).run P w = .ok () w' → Rel P N n0 B M0 w0 F e0 env { st with mem := mem' } a w' → o.wp P a w (a1d P N n0 B M0 w0 F e0 k r) Q := by
   intro w' hrun hrel
   refine c1U (w' := w') ?_ ⟨env, _, hrel.put_u hd undef, hk⟩
   simp only [execOp, ho, f5Y, hrun, f5V, f5Z]
  split at hs
  ·rename_i key off hea
   rw [hea] at had
   have hadv : a.eval ad = .pointer (some ⟨(env key).blk, (env key).base + off, none⟩) := had
   split at hs
   ·rename_i cs hg
    cases hl : Nat.ble (off + new.length) cs.length with
    | false => rw [hl] at hs; cases hs
    | true =>
     rw [hl] at hs
     simp only [cond_true, f5S, f6a, true_and] at hs
     subst hs
     have hle := f54 hl
     obtain ⟨cur, E, g1, g2, g3, g4⟩ := h.ob _ _ hg
     have hst := a5L (P := P) (T := T) g1 (.inl rfl) h2 hne h4 (o := (env key).base + off) (by omega)
     rw [← hadv] at hst
     refine fin hst (c4P h hg g1 g2 (by unfold a4H; simp; omega) (by omega) (b7U g4 (a63 hnew)) fun S' w' hkeep => ?_)
     exact b4h (g3.mono fun c u _ hcu => a0x.mono hkeep (fun _ _ => rfl) hcu) (h1.mono fun c u _ hcu => a0x.mono hkeep (fun _ _ => rfl) hcu)
   ·rename_i T' d hg
    split at hs
    ·rename_i ds hds
     simp only [f5S, f6a, true_and] at hs
     subst hs
     obtain ⟨cur, E, q1, q2, q3, q4⟩ := c4R (c := off) (s := 0) h hg (by omega) (by simp; omega) h1 hds
     have hst := a5L (P := P) (T := T) q1 (.inl rfl) h2 hne h4 (o := off) q3
     rw [q2, Nat.zero_add] at hadv
     rw [← hadv] at hst
     exact fin hst q4
    ·cases hs
   ·cases hs
  ·rename_i key base len esz ix off hea
   rw [hea] at had
   obtain ⟨hlt, hesz, hadv⟩ := had
   split at hs
   ·rename_i cs hg
    split at hs
    ·rename_i c
     split at hs
     ·rename_i cs' hcs'
      simp only [f5S, f6a, true_and] at hs
      subst hs
      obtain ⟨cur, E, g1, g2, g3, g4⟩ := h.ob _ _ hg
      match hv : (a.eval x).cells.toList, h1 with
      | [u], h1' =>
       obtain ⟨s1, s2, s3⟩ := b16 h1'.1 hesz g3 hcs'
       rw [if_pos (by omega)] at s1
       have hin := s3 ix (Nat.zero_le _) (by omega)
       have hst := a5L (P := P) (T := T) (vx := a.eval x) g1 (.inl rfl) h2 hne h4 (o := (env key).base + (base + ix * esz) + off) (by rw [hv]; simp; omega)
       rw [hv] at hst
       have hpos : (env key).base + (base + ix * esz) + off = (env key).base + (base + off + ix * esz) := by omega
       rw [hpos] at hst
       rw [hpos] at hadv
       rw [← hadv] at hst
       refine fin hst (c4P (vs := [u]) h hg g1 g2 s2 (by simp; omega) (b41 (a63 hnew c (by simp)) g4 hcs') fun S' w' hkeep => ?_)
       have e1 : ((cur.toList.drop (env key).base).take cs.length).take (base + off + ix * esz) ++ [u] ++ ((cur.toList.drop (env key).base).take cs.length).drop (base + off + ix * esz + [u].length) = ((cur.toList.drop (env key).base).take cs.length).set (base + off + ix * esz) u := by
        rw [List.set_eq_take_append_cons_drop, if_pos (by rw [← g3.length]; exact hin)]
        simp
       rw [e1]
       exact s1.mono fun c u _ hcu => a0x.mono hkeep (fun _ _ => rfl) hcu
      | [], h1' => exact h1'.elim
      | _ :: _ :: _, h1' => exact h1'.2.elim
     ·cases hs
    ·cases hs
   ·rename_i T' d hg
    cases hu : e5o P T' (base + off) esz new.length (c7f P T' (base + off) new.length) len with
    | false => rw [hu] at hs; cases hs
    | true =>
     rw [hu] at hs
     simp only [cond_true] at hs
     split at hs
     ·rename_i ds hds
      simp only [f5S, f6a, true_and] at hs
      subst hs
      rw [← c1M hu hlt] at hds
      obtain ⟨cur, E, q1, q2, q3, q4⟩ := c4R (c := base + off) (s := ix * esz) h hg rfl (by simp; omega) h1 hds
      have hst := a5L (P := P) (T := T) q1 (.inl rfl) h2 hne h4 (o := base + off + ix * esz) q3
      rw [q2, show 0 + (base + ix * esz) + off = base + off + ix * esz by omega] at hadv
      rw [← hadv] at hst
      exact fin hst q4
     ·cases hs
   ·cases hs
  ·rename_i key e ix off hea
   rw [hea] at had
   have hadv : a.eval ad = .pointer (some ⟨(env key).blk, ix * a0d P e + off, none⟩) := had
   split at hs
   ·rename_i e' nl xs hg
    cases hl : Nat.beq e e' && Nat.ble (off + new.length) (kinds P e).length with
    | false => rw [hl] at hs; cases hs
    | true =>
     rw [hl] at hs
     simp only [f5U] at hl
     have := f5T hl.1
     subst this
     have hle := f54 hl.2
     simp only [cond_true] at hs
     split at hs
     ·rename_i d hd'
      simp only [f5S, f6a, decide_eq_true_eq] at hs
      obtain ⟨hix, rfl⟩ := hs
      obtain ⟨cur, E, fr, q1, q0, q2, q3⟩ := d4U h hg hix hle h1 hd'
      have hst := a5L (P := P) (T := T) q1 q0 h2 hne h4 (o := ix * a0d P e + off) q2
      rw [← hadv] at hst
      exact fin hst q3
     ·cases hs
   ·cases hs
  ·cases hs
end
end Go.AM

namespace Go.AM
open Go

section
variable {P : Program} {N n0 kb : Nat} {F : Nat → Prop} {B M0 : a0Q} {w0 : World} {e0 : b0H} {env : Env} {st : St} {a : Act} {w : World}
def a3x (P : Program) (w : World) (S : a0Q) (e : TypeId) (xs : List D) (cur : Array Value) : Prop :=
 ∀ (i j : Nat) (k : CK), i < xs.length → (kinds P e)[j]? = some k → ∃ u, cur[i * a0d P e + j]? = some u ∧ a2e P w S k (elD P e (xs.getD i (.i 0)) j) u
theorem a0o {T e : TypeId} (h : a0t P T = some e) : P.underlying T = some (.slice e) ∧ a0d P e = (kinds P e).length ∧ tyB P e = true ∧ 0 < a0d P e := by
 unfold a0t at h
 split at h
 ·rename_i e' hu
  cases hb : Nat.beq (a0d P e') (kinds P e').length && tyB P e' && !Nat.beq (a0d P e') 0 with
  | false => rw [hb] at h; cases h
  | true =>
   rw [hb] at h
   simp only [cond_true, f5S] at h
   subst h
   simp only [f5U, Bool.not_eq_true'] at hb
   refine ⟨hu, f5T hb.1.1, hb.1.2, ?_⟩
   have := hb.2
   rw [a0v] at this
   simp at this
   omega
 ·cases h
theorem a2t {e : TypeId} {z : D} (h : a5g P e = some z) : ∃ v, (∀ w : World, (zeroValue e).run P w = .ok v w) ∧ (∃ i, P.info? e = some i ∧ i.zero = some v) ∧ v.cells.size = (kinds P e).length ∧
  ∀ (w : World) (S : a0Q) (j : Nat) (k : CK), (kinds P e)[j]? = some k → ∃ u, v.cells[j]? = some u ∧ a2e P w S k (elD P e z j) u := by
 unfold a5g at h
 split at h
 ·rename_i x hx
  have hz : ∃ v, (∀ w : World, (zeroValue e).run P w = .ok v w) ∧ (∃ i, P.info? e = some i ∧ i.zero = some v) ∧ ∀ (w : World) (S : a0Q), a0G P (fun _ => ⟨0, 0, none⟩) S w x v := by
   obtain ⟨v, h1, _⟩ := a3X (env := fun _ => ⟨0, 0, none⟩) (S := fun _ _ => False) (w := default) hx
   have hi : ∃ i, P.info? e = some i ∧ i.zero = some v := by
    unfold zeroValue typeInfo at h1
    simp only [f5Y, run_program, f5V] at h1
    cases hi : P.info? e with
    | none => rw [hi] at h1; simp at h1
    | some i =>
     rw [hi] at h1
     simp only [f5Z, f5V] at h1
     cases hz : i.zero with
     | none => rw [hz] at h1; simp at h1
     | some v' => rw [hz] at h1; simp only [f5Z, Result.ok.injEq, and_true] at h1; exact ⟨i, rfl, by rw [hz, h1]⟩
   obtain ⟨i, hi1, hi2⟩ := hi
   refine ⟨v, fun w => by simp [zeroValue, typeInfo, hi1, hi2], ⟨i, hi1, hi2⟩, fun w S => ?_⟩
   obtain ⟨v2, h3, h4⟩ := a3X (env := fun _ => ⟨0, 0, none⟩) (S := S) (w := w) hx
   have : v2 = v := by
    have h5 : (zeroValue e).run P w = .ok v w := by simp [zeroValue, typeInfo, hi1, hi2]
    rw [h5] at h3
    simp only [Result.ok.injEq, and_true] at h3
    exact h3.symm
   rw [← this]
   exact h4
  obtain ⟨v, h1, h2, h3⟩ := hz
  have hc := fun (w : World) (S : a0Q) => a7f (mem := []) (fun key o hg => by cases hg) (fun key e xs hg => by cases hg) (h3 w S) h
  exact ⟨v, h1, h2, (hc default (fun _ _ => False)).1.symm, fun w S j k hk => (hc w S).2 j k hk⟩
 ·cases h
theorem b6i {e : TypeId} {z : D} {v : Value} (hs : a0d P e = (kinds P e).length) (hv : v.cells.size = (kinds P e).length) {S : a0Q} (hc : ∀ (j : Nat) (k : CK), (kinds P e)[j]? = some k → ∃ u, v.cells[j]? = some u ∧ a2e P w S k (elD P e z j) u) (n m : Nat) (hnm : n ≤ m) :
  a3x P w S e (List.replicate n z) ((Array.range (m * a0d P e)).map (v.cells[· % v.cells.size]!)) := by
 intro i j k hi hk
 rw [List.length_replicate] at hi
 have hj : j < (kinds P e).length := (f55.1 hk).1
 obtain ⟨u, hu, hr⟩ := hc j k hk
 refine ⟨u, ?_, ?_⟩
 ·have hlt : i * a0d P e + j < m * a0d P e := b73 (by omega) (by omega)
  rw [Array.getElem?_map, Array.getElem?_range, if_pos hlt]
  simp only [f6b]
  have hmod : (i * a0d P e + j) % v.cells.size = j := by
   rw [hv, hs, Nat.mul_comm, Nat.mul_add_mod, Nat.mod_eq_of_lt hj]
  rw [hmod]
  have hjs : j < v.cells.size := by omega
  rw [getElem!_pos v.cells j hjs]
  rw [Array.getElem?_eq_getElem hjs] at hu
  exact hu
 ·rw [f51, List.getElem?_replicate, if_pos hi]
  exact hr
theorem c0m {S : a0Q} {e : TypeId} {x : V} {v : Value} (h : a0G P env S w x v) : a0G P env S w (e9l P e x) v := by
 cases x with
 | c c => simp only [e9l]; split <;> first | exact b4e h | exact h
 | g cs => obtain ⟨vs, h1, h2⟩ := h; exact ⟨vs, h1, a7N h2⟩
 | _ => exact h
theorem b46 {S : a0Q} {mem : AL Obj} (hob : ∀ key o, get mem key = some o → a0R P env S w (env key) o) (hst : a1p P env S mem) {e : TypeId} (hs : a0d P e = (kinds P e).length) : ∀ {parts : List (Nat × V)} {vps : List (Nat × Value)} {ds out : List D} {cur : Array Value},
  a0B (fun x y => x.1 = y.1 ∧ a0G P env S w x.2 y.2) parts vps → cur.size = ds.length * a0d P e → a3x P w S e ds cur → c0d P mem e ds parts = some out →
  ∃ cur', Instr.fill (fun i => some (i * a0d P e, a0d P e)) cur vps = some cur' ∧ cur'.size = out.length * a0d P e ∧ out.length = ds.length ∧ a3x P w S e out cur'
 | [], vps, ds, out, cur, hps, hsz, hc, h => by
  cases vps with
  | nil => simp only [c0d, f5S] at h; subst h; exact ⟨cur, rfl, hsz, rfl, hc⟩
  | cons => exact hps.elim
 | (i, x) :: parts, vps, ds, out, cur, hps, hsz, hc, h => by
  cases vps with
  | nil => exact hps.elim
  | cons y vps =>
   obtain ⟨i', v⟩ := y
   obtain ⟨⟨hi, hv⟩, hps⟩ := hps
   simp only at hi hv
   subst hi
   simp only [c0d] at h
   split at h
   ·rename_i d hd
    cases hl : Nat.blt i ds.length with
    | false => rw [hl] at h; cases h
    | true =>
     rw [hl] at h
     simp only [cond_true] at h
     have hlt : i < ds.length := f54 hl
     obtain ⟨q1, q2⟩ := a7f hob hst (c0m (e := e) hv) hd
     have hfit : i * a0d P e + v.cells.size ≤ cur.size := by
      rw [hsz, ← q1, ← hs]
      have : (i + 1) * a0d P e ≤ ds.length * a0d P e := Nat.mul_le_mul_right _ hlt
      rw [Nat.add_mul, Nat.one_mul] at this
      exact this
     have hf : (v.cells.zipIdx.foldl (fun cs (c, j) => cs.setIfInBounds (i * a0d P e + j) c) cur).toList = cur.toList.take (i * a0d P e) ++ v.cells.toList ++ cur.toList.drop (i * a0d P e + v.cells.toList.length) := by
      have := b72 (i * a0d P e) v.cells.toList 0 cur (by simpa using hfit)
      rw [← Array.foldl_toList, Array.toList_zipIdx]
      simpa using this
     have hget : ∀ j, (v.cells.zipIdx.foldl (fun cs (c, j) => cs.setIfInBounds (i * a0d P e + j) c) cur)[j]? = if i * a0d P e ≤ j ∧ j < i * a0d P e + v.cells.size then v.cells[j - i * a0d P e]? else cur[j]? := by
      intro j
      rw [← Array.getElem?_toList, hf, b4k _ _ _ _ (by simpa using hfit)]
      simp
     have hsz2 : (v.cells.zipIdx.foldl (fun cs (c, j) => cs.setIfInBounds (i * a0d P e + j) c) cur).size = (ds.set i d).length * a0d P e := by
      rw [← Array.length_toList, hf, c0l _ _ _ (by simpa using hfit)]
      simpa using hsz
     have hrow : a3x P w S e (ds.set i d) (v.cells.zipIdx.foldl (fun cs (c, j) => cs.setIfInBounds (i * a0d P e + j) c) cur) := by
      intro i2 j k hi2 hk
      rw [List.length_set] at hi2
      have hj : j < (kinds P e).length := (f55.1 hk).1
      by_cases hii : i2 = i
      ·subst hii
       obtain ⟨u, hu, hr⟩ := q2 j k hk
       refine ⟨u, ?_, ?_⟩
       ·rw [hget, if_pos (by omega), ← hu]; congr 1; omega
       ·rw [f51, List.getElem?_set_self hlt]; exact hr
      ·obtain ⟨u, hu, hr⟩ := hc i2 j k hi2 hk
       refine ⟨u, ?_, ?_⟩
       ·rw [hget, if_neg ?_]
        ·exact hu
        ·intro hcc
         rcases Nat.lt_or_gt_of_ne hii with hlt2 | hgt
         ·have := b73 (s := a0d P e) (j := j) hlt2 (by omega); omega
         ·have h7 : (i + 1) * a0d P e ≤ i2 * a0d P e := Nat.mul_le_mul_right _ hgt
          rw [Nat.add_mul, Nat.one_mul] at h7
          omega
       ·rw [f51, List.getElem?_set_ne (Ne.symm hii), ← f51]; exact hr
     obtain ⟨cur', r1, r2, r3, r4⟩ := b46 hob hst hs hps hsz2 hrow h
     refine ⟨cur', ?_, r2, by simpa using r3, r4⟩
     simp only [Instr.fill]
     rw [if_neg (by
      intro hh
      rw [Bool.or_eq_true, decide_eq_true_eq, decide_eq_true_eq] at hh
      rcases hh with hh | hh
      ·exact hh (by omega)
      ·omega)]
     exact r1
   ·cases h
theorem a3x.mono {S S' : a0Q} {w' : World} (h : a0O w S w' S') {e : TypeId} {xs : List D} {cur : Array Value} (hr : a3x P w S e xs cur) : a3x P w' S' e xs cur :=
 fun i j k hi hk => let ⟨u, a, b⟩ := hr i j k hi hk; ⟨u, a, b.mono h⟩
theorem c7t (h : Rel P N n0 B M0 w0 F e0 env st a w) {mem0 : AL Obj} (hsub : ∀ k ob, get mem0 k = some ob → get st.mem k = some ob) (key : Nat) (hkey : ¬ F key) {e : TypeId} {ex : Bool} {xs : List D} {cap : Nat} {cur : Array Value} {fr : Nat × Nat} {w' : World} (hch : Chg (fun _ _ => False) w w') (hheap : w'.heap = w.heap.push (.cells cur e fr)) (hfr : e30 fr cur.size)
  (hs : a0d P e = (kinds P e).length) (hle : xs.length ≤ cap) (hcap : cap ≤ maxLen) (hsz : cur.size = cap * a0d P e) (hr : a3x P w (Sof P B M0 n0 env st.mem w) e xs cur) :
  Rel P N n0 B M0 w0 F e0 (upd env key ⟨w.heap.size, 0, some (xs.length, cap)⟩) (a0L key (.row e ex false xs) { st with mem := mem0 }) a w' :=
 Rel.newBlock h hsub key hkey _ _ (.cells cur e fr) hch hheap fun S' hk => by
  refine ⟨hs, .inr ⟨rfl, rfl, cap, cur, rfl, ?_, hle, hcap, hsz, hr.mono hk⟩⟩
  exact ⟨fr, hfr, by rw [hheap, Array.getElem?_push, if_pos rfl]⟩
theorem a3K (h : Rel P N n0 B M0 w0 F e0 env st a w) {mem0 : AL Obj} (hsub : ∀ k ob, get mem0 k = some ob → get st.mem k = some ob) (key : Nat) (hkey : ¬ F key) {e : TypeId} {ex : Bool} {xs : List D} {cap : Nat} {cur : Array Value} {w' : World} (hch : Chg (fun _ _ => False) w w') (hheap : w'.heap = w.heap.push (.cells cur e))
  (hs : a0d P e = (kinds P e).length) (hle : xs.length ≤ cap) (hcap : cap ≤ maxLen) (hsz : cur.size = cap * a0d P e) (hr : a3x P w (Sof P B M0 n0 env st.mem w) e xs cur) :
  Rel P N n0 B M0 w0 F e0 (upd env key ⟨w.heap.size, 0, some (xs.length, cap)⟩) (a0L key (.row e ex false xs) { st with mem := mem0 }) a w' :=
 Rel.newBlock h hsub key hkey _ _ (.cells cur e) hch hheap fun S' hk => by
  refine ⟨hs, .inr ⟨rfl, rfl, cap, cur, rfl, ?_, hle, hcap, hsz, hr.mono hk⟩⟩
  exact .of (by rw [hheap, Array.getElem?_push, if_pos rfl])
theorem b5Q {R : Type} {d n : Nat} {T el : TypeId} {parts : Array (Nat × Operand)} {z : D} {ds : List D} {k : St → Option R} {r : R} {o : Oper} {Q : Exit → Act → World → Prop} (h : Rel P N n0 B M0 w0 F e0 env st a w) (hd : d < N) (hF : ¬ F (kb + d)) (ho : o.op = .buildSlice T n parts) (hdst : o.dst = some d)
  (hel : a0t P T = some el) (hz : a5g P el = some z) (hds : c0d P st.mem el (List.replicate n z) (parts.toList.map fun (i, x) => (i, evu st x)) = some ds) (hn : n * a0d P el ≤ 16777216)
  (hk : k ((a0L (kb + d) (.row el true false ds) st).put (some d) (.c (.o (kb + d)))) = some r) : o.wp P a w (a1d P N n0 B M0 w0 F e0 k r) Q := by
 obtain ⟨hu, hs, hty, hpos⟩ := a0o hel
 obtain ⟨v, hrun, _, hvs, hvc⟩ := a2t hz
 have hzr := b6i (w := w) hs hvs (hvc w (Sof P B M0 n0 env st.mem w)) n n (Nat.le_refl _)
 obtain ⟨cur, h1, h2, h3, h4⟩ := b46 (vps := (parts.map fun (i, x) => (i, a.eval x)).toList) h.ob h.rows hs (by rw [Array.toList_map]; exact d4P h.evu parts.toList) (by simp) hzr hds
 rw [List.length_replicate] at h3
 refine a0X (v := .slice (some ⟨w.heap.size, 0, none⟩) n n) (w' := push w (.cells cur el)) ?_ ?_
 ·simp only [execOp, ho, f5Y]
  have hrow : (newRow el cur).run P w = .ok ⟨w.heap.size, 0, none⟩ (push w (.cells cur el)) := by simp [Go.newRow, push]
  simp only [Instr.buildSlice, f5Y, run_underlying hu, f5V, a06 hty, if_neg (show ¬ n * a0d P el > 2 ^ 24 by omega), f5Z]
  by_cases h0 : n * a0d P el = 0
  ·rw [if_pos h0]
   rw [h0] at h1 ⊢
   rw [show Array.range 0 = #[] from rfl] at h1 ⊢
   rw [Array.map_empty] at h1
   simp only [f5Y, f5Z, f5V, Array.map_empty, h1, hrow]
  ·rw [if_neg h0]
   simp only [f5Y, hrun w, f5Z, f5V, h1, hrow]
 ·have hrel := a3K h (mem0 := st.mem) (fun _ _ hg => hg) (kb + d) hF (ex := true) (xs := ds) (cap := n) (cur := cur) (w' := push w (.cells cur el)) (a6y _ w _) rfl hs (by omega) (by
   unfold maxLen
   have : n * 1 ≤ n * a0d P el := Nat.mul_le_mul_left _ hpos
   omega) (by rw [h2, h3]) h4
  rw [hdst]
  refine ⟨_, _, hrel.put (fun _ hdd => by cases hdd; exact hd) ?_, hk⟩
  simp [a0w, a0G, a0x, upd, a3R.hdr, h3]
theorem c9Q {α β : Type} {R : α → β → Prop} : ∀ {xs : List α} {ys : List β}, a0B R xs ys → ∀ (i : Nat) {x : α} {y : β}, R x y → a0B R (xs.set i x) (ys.set i y)
 | [], [], _, _, _, _, _ => trivial
 | _ :: _, _ :: _, h, 0, _, _, hr => ⟨hr, h.2⟩
 | _ :: _, _ :: _, h, i + 1, _, _, hr => ⟨h.1, c9Q h.2 i hr⟩
 | [], _ :: _, h, _, _, _, _ => h.elim
 | _ :: _, [], h, _, _, _, _ => h.elim
theorem b47 {S : a0Q} : ∀ {parts : List (Nat × V)} {vps : List (Nat × Value)} {cs out : List C} {cur : Array Value},
  a0B (fun x y => x.1 = y.1 ∧ a0G P env S w x.2 y.2) parts vps → a0B (a0x P env S w) cs cur.toList → b1Z cs parts = some out →
  ∃ cur', Instr.fill (fun i => some (i * 1, 1)) cur vps = some cur' ∧ cur'.size = cur.size ∧ a0B (a0x P env S w) out cur'.toList
 | [], vps, cs, out, cur, hps, hc, h => by
  cases vps with
  | nil => simp only [b1Z, f5S] at h; subst h; exact ⟨cur, rfl, rfl, hc⟩
  | cons => exact hps.elim
 | (i, x) :: r, vps, cs, out, cur, hps, hc, h => by
  cases vps with
  | nil => exact hps.elim
  | cons q vps =>
   obtain ⟨j, v⟩ := q
   obtain ⟨⟨he, hv⟩, hps⟩ := hps
   simp only at he hv
   subst he
   simp only [b1Z] at h
   split at h
   ·rename_i c
    cases hb : Nat.blt i cs.length && a44 c with
    | false => rw [hb] at h; cases h
    | true =>
     rw [hb] at h
     simp only [cond_true] at h
     simp only [f5U] at hb
     obtain ⟨hb, hp⟩ := hb
     have hlt : i < cs.length := f54 hb
     have hl : cs.length = cur.size := by rw [hc.length]; simp
     have hcell : v.cells = #[v] := (b13 hp hv).2
     have hset : a0B (a0x P env S w) (cs.set i c) (cur.setIfInBounds i v).toList := by
      rw [Array.toList_setIfInBounds]
      exact c9Q hc i hv
     obtain ⟨cur', r1, r2, r3⟩ := b47 hps hset h
     refine ⟨cur', ?_, by simpa using r2, r3⟩
     simp only [Instr.fill, hcell]
     rw [if_neg (by
      intro hh
      rw [Bool.or_eq_true, decide_eq_true_eq, decide_eq_true_eq] at hh
      rcases hh with hh | hh
      ·exact hh rfl
      ·simp at hh; omega)]
     simpa using r1
   ·cases h
theorem c4S {T : TypeId} {n : Nat} : ∀ {parts : List (Nat × V)} {cs out : List C}, b1Z cs parts = some out → (∀ c ∈ cs, a6v P T n c) → ∀ c ∈ out, a6v P T n c
 | [], cs, out, h, hc => by simp only [b1Z, f5S] at h; subst h; exact hc
 | (i, x) :: r, cs, out, h, hc => by
  simp only [b1Z] at h
  split at h
  ·rename_i c
   cases hb : Nat.blt i cs.length && a44 c with
   | false => rw [hb] at h; cases h
   | true =>
    rw [hb] at h
    simp only [AM.cond_true] at h
    simp only [f5U] at hb
    exact c4S h (c1L hc (b4d hb.2))
  ·cases h
theorem c9R {α β : Type} {R : α → β → Prop} {x : α} {y : β} (h : R x y) : ∀ n : Nat, a0B R (List.replicate n x) (List.replicate n y)
 | 0 => trivial
 | n + 1 => ⟨h, c9R h n⟩
theorem b4l {R : Type} {d n : Nat} {T el : TypeId} {parts : Array (Nat × Operand)} {z : C} {cs : List C} {k : St → Option R} {r : R} {o : Oper} {Q : Exit → Act → World → Prop} (h : Rel P N n0 B M0 w0 F e0 env st a w) (hd : d < N) (hF : ¬ F (kb + d)) (ho : o.op = .buildSlice T n parts) (hdst : o.dst = some d)
  (hel : a0t P T = some el) (hz : b9y P el = some [z]) (hcs : b1Z (List.replicate n z) (parts.toList.map fun (i, x) => (i, evu st x)) = some cs) (hs1 : a0d P el = 1) (hn0 : 0 < n) (hn : n ≤ 16777216)
  (hk : k ((a0L (kb + d) (.box (cs.map (inval (kb + d)))) st).put (some d) (.c (.bs (kb + d) n))) = some r) : o.wp P a w (a1d P N n0 B M0 w0 F e0 k r) Q := by
 obtain ⟨hu, hs, hty, hpos⟩ := a0o hel
 obtain ⟨i, v, _, _, hzr, hrun, _⟩ := a3F (env := env) (S := Sof P B M0 n0 env st.mem w) (w := w) hz
 have hone : ∃ u, v.cells = #[u] ∧ a0x P env (Sof P B M0 n0 env st.mem w) w z u := by
  have hl := hzr.length
  match hv : v.cells.toList, hzr with
  | [u], hzr => exact ⟨u, by rw [← Array.toList_inj, hv], hzr.1⟩
  | [], hzr => exact hzr.elim
  | _ :: _ :: _, hzr => exact hzr.2.elim
 obtain ⟨u, hu1, hu2⟩ := hone
 have hcur : (Array.range (n * 1)).map (fun x => (#[u] : Array Value)[x % (#[u] : Array Value).size]!) = Array.replicate n u := by
  apply Array.ext
  ·simp
  ·intro j h1 h2
   simp [Nat.mod_one]
 obtain ⟨cur, h1, h2, h3⟩ := b47 (vps := (parts.map fun (i, x) => (i, a.eval x)).toList) (cur := Array.replicate n u) (by rw [Array.toList_map]; exact d4P h.evu parts.toList) (by rw [Array.toList_replicate]; exact c9R hu2 n) hcs
 refine a0X (v := .slice (some ⟨w.heap.size, 0, none⟩) n n) (w' := push w (.cells cur el)) ?_ ?_
 ·simp only [execOp, ho, f5Y]
  have hrow : (newRow el cur).run P w = .ok ⟨w.heap.size, 0, none⟩ (push w (.cells cur el)) := by simp [Go.newRow, push]
  simp only [Instr.buildSlice, f5Y, run_underlying hu, f5V, a06 hty, hs1, if_neg (show ¬ n * 1 > 2 ^ 24 by omega), f5Z]
  rw [if_neg (show ¬ n * 1 = 0 by omega)]
  simp only [f5Y, hrun, f5Z, f5V, hu1, hcur, h1, hrow]
 ·have hl : cs.length = cur.size := by rw [h3.length]; simp
  have hn2 : cur.size = n := by rw [h2]; simp
  have hnb := Rel.newBlock h (mem0 := st.mem) (fun _ _ hg => hg) (kb + d) hF (.box (cs.map (inval (kb + d)))) none (.cells cur el) (a6y _ w _) rfl fun S' hkeep => by
   refine ⟨cur, el, a9O, by simp; omega, ?_, a5i (fun _ => a7d) (c4S hcs fun c hc => c9P hz c (by rw [(List.mem_replicate.1 hc).2]; simp))⟩
   have h1' : a0B (a0x P (upd env (kb + d) ⟨w.heap.size, 0, none⟩) S' (push w (.cells cur el))) (cs.map (inval (kb + d))) cur.toList :=
    h3.mapl fun c u _ hcu => a0x.inval hkeep (kb + d) (fun k hk => by simp [upd, hk]) hcu
   exact h1'.self_take
  rw [hdst]
  refine ⟨_, _, hnb.put (v := .slice (some ⟨w.heap.size, 0, none⟩) n n) (fun _ hdd => by cases hdd; exact hd) ?_, hk⟩
  simp [a0w, a0G, a0x, upd]
end
end Go.AM

namespace Go.AM
open Go

section
variable {P : Program} {N n0 kb : Nat} {F : Nat → Prop} {B M0 : a0Q} {w0 : World} {e0 : b0H} {env : Env} {st : St} {a : Act} {w : World}
theorem c9S {S : a0Q} {k : CK} {d : D} {u : Value} (h : a2e P w S k d u) : u.oneCell' = true := by cases h <;> first | rfl | (unfold fnV; cases d.toB <;> rfl)
structure Src (P : Program) (w : World) (S : a0Q) (e : TypeId) (ys : List D) (vx : Value) : Prop where
 src : (∃ (ao : Option Addr) (c : Nat), vx = .slice ao 0 c ∧ ys = []) ∨ ∃ b o c, vx = .slice (some ⟨b, o, none⟩) ys.length c ∧
  ∀ (i j : Nat) (k : CK), i < ys.length → (kinds P e)[j]? = some k → ∃ u, w.cell? ⟨b, o + (i * a0d P e + j), none⟩ = some u ∧ a2e P w S k (elD P e (ys.getD i (.i 0)) j) u
theorem c0n (h : Rel P N n0 B M0 w0 F e0 env st a w) {e : TypeId} {x : V} {vx : Value} {ys : List D} (hx : a0G P env (Sof P B M0 n0 env st.mem w) w x vx) (hs : e9k st.mem e x = some ys) : Src P w (Sof P B M0 n0 env st.mem w) e ys vx := by
 unfold e9k at hs
 split at hs
 ·rename_i key
  split at hs
  ·rename_i e' ex nl xs hg
   cases he : Nat.beq e e' with
   | false => rw [he] at hs; cases hs
   | true =>
    have := f5T he
    subst this
    rw [he] at hs
    simp only [cond_true, f5S] at hs
    subst hs
    have hv : vx = (env key).hdr := hx
    obtain ⟨h0, ⟨_, rfl, h1⟩ | ⟨_, _, cap, cur, h1, h2, h3, h4, h5, h6⟩⟩ := h.ob _ _ hg
    ·exact ⟨.inl ⟨none, 0, by rw [hv, h1], rfl⟩⟩
    ·refine ⟨.inr ⟨(env key).blk, 0, cap, by rw [hv, h1], fun i j k hi hk => ?_⟩⟩
     obtain ⟨u, hu, hr⟩ := h6 i j k hi hk
     exact ⟨u, by rw [Nat.zero_add]; exact h2.cell hu, hr⟩
  ·cases hs
 ·rename_i e' nl xs
  cases he : Nat.beq e e' with
  | false => rw [he] at hs; cases hs
  | true =>
   have := f5T he
   subst this
   rw [he] at hs
   simp only [cond_true, f5S] at hs
   subst hs
   have hr : a2e P w (Sof P B M0 n0 env st.mem w) (.sl e) (.l nl xs) vx := hx
   cases hr with
   | nil e d a1 a2 => exact ⟨.inl ⟨none, 0, rfl, a2⟩⟩
   | emp e d ad cap a1 a2 am => exact ⟨.inl ⟨some ad, cap, rfl, a2⟩⟩
   | sl e d b off cap cv a1 a2 a3 am a4 a5 =>
    refine ⟨.inr ⟨b, off, cap, rfl, fun i j k hi hk => ?_⟩⟩
    have hj : j < (kinds P e).length := (f55.1 hk).1
    refine ⟨cv i j, ?_, a5 i hi j k hk⟩
    rw [← Nat.add_assoc]
    exact (a4 i hi j hj).2
 ·simp only [f5S] at hs
  subst hs
  have hv : vx = .slice none 0 0 := hx
  exact ⟨.inl ⟨none, 0, hv, rfl⟩⟩
 ·cases hs
theorem b6j {S : a0Q} {e : TypeId} {ys : List D} {b o : Nat} (hs : a0d P e = (kinds P e).length) (hpos : 0 < a0d P e)
  (h : ∀ (i j : Nat) (k : CK), i < ys.length → (kinds P e)[j]? = some k → ∃ u, w.cell? ⟨b, o + (i * a0d P e + j), none⟩ = some u ∧ a2e P w S k (elD P e (ys.getD i (.i 0)) j) u) :
  ∃ news : List Value, news.length = ys.length * a0d P e ∧ (∀ j u, news[j]? = some u → w.cell? ((⟨b, o, none⟩ : Addr).add j) = some u) ∧ (∀ u ∈ news, u.oneCell' = true) ∧
   ∀ (i j : Nat) (k : CK), i < ys.length → (kinds P e)[j]? = some k → ∃ u, news[i * a0d P e + j]? = some u ∧ a2e P w S k (elD P e (ys.getD i (.i 0)) j) u := by
 have hq : ∀ q, q < ys.length * a0d P e → ∃ u k i j, w.cell? ⟨b, o + q, none⟩ = some u ∧ a2e P w S k (elD P e (ys.getD i (.i 0)) j) u := by
  intro q hq
  have hi : q / a0d P e < ys.length := Nat.div_lt_of_lt_mul (by rw [Nat.mul_comm]; exact hq)
  have hj : q % a0d P e < (kinds P e).length := by rw [← hs]; exact Nat.mod_lt _ hpos
  obtain ⟨u, hu, hr⟩ := h (q / a0d P e) (q % a0d P e) _ hi (f58 hj)
  refine ⟨u, _, _, _, ?_, hr⟩
  have : q / a0d P e * a0d P e + q % a0d P e = q := by rw [Nat.mul_comm]; exact Nat.div_add_mod q _
  rw [this] at hu
  exact hu
 have hget : ∀ q, ((List.range (ys.length * a0d P e)).map fun q => (w.cell? ⟨b, o + q, none⟩).getD undef)[q]? = if q < ys.length * a0d P e then some ((w.cell? ⟨b, o + q, none⟩).getD undef) else none := by
  intro q
  rw [List.getElem?_map]
  by_cases hlt : q < ys.length * a0d P e
  ·rw [List.getElem?_range hlt, if_pos hlt]; rfl
  ·rw [List.getElem?_eq_none (by simpa using hlt), if_neg hlt]; rfl
 refine ⟨(List.range (ys.length * a0d P e)).map fun q => (w.cell? ⟨b, o + q, none⟩).getD undef, by simp, ?_, ?_, ?_⟩
 ·intro j u hu
  rw [hget] at hu
  split at hu
  ·rename_i hlt
   obtain ⟨u', k, i, j', hc, _⟩ := hq j hlt
   rw [Addr.add_lit, hc]
   rw [hc] at hu
   exact hu
  ·cases hu
 ·intro u hu
  obtain ⟨j, hj⟩ := List.getElem?_of_mem hu
  rw [hget] at hj
  split at hj
  ·rename_i hlt
   obtain ⟨u', k, i, j', hc, hr⟩ := hq j hlt
   rw [hc] at hj
   simp only [Option.getD_some, f5S] at hj
   subst hj
   exact c9S hr
  ·cases hj
 ·intro i j k hi hk
  obtain ⟨u, hu, hr⟩ := h i j k hi hk
  have hj : j < (kinds P e).length := (f55.1 hk).1
  refine ⟨u, ?_, hr⟩
  rw [hget, if_pos (b73 hi (by omega)), hu]
  rfl
theorem a1t {S : a0Q} {e : TypeId} {xs ys : List D} {cur : Array Value} {olds news : List Value}
  (ho : ∀ (i j : Nat) (k : CK), i < xs.length → (kinds P e)[j]? = some k → ∃ u, olds[i * a0d P e + j]? = some u ∧ a2e P w S k (elD P e (xs.getD i (.i 0)) j) u) (hol : olds.length = xs.length * a0d P e)
  (hn : ∀ (i j : Nat) (k : CK), i < ys.length → (kinds P e)[j]? = some k → ∃ u, news[i * a0d P e + j]? = some u ∧ a2e P w S k (elD P e (ys.getD i (.i 0)) j) u) (hnl : news.length = ys.length * a0d P e)
  (hcur : ∀ q, q < olds.length + news.length → cur[q]? = (olds ++ news)[q]?) : a3x P w S e (xs ++ ys) cur := by
 intro i j k hi hk
 rw [List.length_append] at hi
 have hj : j < (kinds P e).length := (f55.1 hk).1
 by_cases hix : i < xs.length
 ·obtain ⟨u, hu, hr⟩ := ho i j k hix hk
  have hlt : i * a0d P e + j < olds.length := (f55.1 hu).1
  refine ⟨u, ?_, ?_⟩
  ·rw [hcur _ (by omega), List.getElem?_append_left hlt]; exact hu
  ·rw [f51, List.getElem?_append_left hix, ← f51]; exact hr
 ·obtain ⟨u, hu, hr⟩ := hn (i - xs.length) j k (by omega) hk
  have hlt : (i - xs.length) * a0d P e + j < news.length := (f55.1 hu).1
  have he : i * a0d P e = xs.length * a0d P e + (i - xs.length) * a0d P e := by rw [← Nat.add_mul]; congr 1; omega
  refine ⟨u, ?_, ?_⟩
  ·rw [hcur _ (by omega), List.getElem?_append_right (by omega), ← hu]; congr 1; omega
  ·rw [f51, List.getElem?_append_right (by omega), ← f51]; exact hr
theorem a5z (h : Rel P N n0 B M0 w0 F e0 env st a w) {mem0 : AL Obj} (hsub : ∀ k ob, get mem0 k = some ob → get st.mem k = some ob) (key : Nat) (hkey : ¬ F key) {e : TypeId} {ex : Bool} (hs : a0d P e = (kinds P e).length) :
  Rel P N n0 B M0 w0 F e0 (upd env key ⟨0, 0, none⟩) (a0L key (.row e ex true []) { st with mem := mem0 }) a w :=
 Rel.new h hsub key hkey _ _ (fun _ _ => False) (Chg.refl _ w) (fun _ _ hf => hf.elim) (fun _ _ _ _ _ => rfl) (fun _ => ⟨hs, .inl ⟨rfl, rfl, rfl⟩⟩) (fun b x hm => by cases hm.1) (fun hr => by cases hr) (fun e ex xs he => by cases he)
theorem b48 {w : World} {o : Go.Obj} {b : Nat} (h : b < w.heap.size) : (w.drew.alloc o).heap[b]? = w.heap[b]? := by
 show (w.heap.push o)[b]? = _
 rw [Array.getElem?_push, if_neg (by omega)]
theorem a2k (w : World) (o : Go.Obj) : Chg (fun _ _ => False) w (w.drew.alloc o) :=
 ⟨rfl, rfl, rfl, by simp, fun b cur T fr h => ⟨cur, fr, by rw [b48 (f53.1 h).1]; exact h, rfl, fun _ _ => rfl, .inl rfl⟩,
  fun b ob h _ => by rw [b48 (f53.1 h).1]; exact h⟩
theorem a8m (h : Rel P N n0 B M0 w0 F e0 env st a w) {mem0 : AL Obj} (hsub : ∀ k ob, get mem0 k = some ob → get st.mem k = some ob) {T ty el : TypeId} (hel : a0t P T = some el) {z : Value} {i : TypeInfo} (hi : P.info? el = some i) (hz : i.zero = some z) (hzs : z.cells.size = (kinds P el).length)
  {ys : List D} {vx : Value} (hsrc : Src P w (Sof P B M0 n0 env st.mem w) el ys vx) (hroom : ys.length * a2T P el ≤ b1h) (hmax : ys.length ≤ a0U) (key : Nat) (hkey : ¬ F key) (ex : Bool) :
  ∃ v w' env', (Builtin.append_ #[T, T] ty #[.slice none 0 0, vx]).run P w = .ok v w' ∧ Rel P N n0 B M0 w0 F e0 env' (a0L key (.row el ex ys.isEmpty ys) { st with mem := mem0 }) a w' ∧ v = (env' key).hdr := by
 obtain ⟨hu, hs, hty, hpos⟩ := a0o hel
 have hsz : i.size = a0d P el := by simp [a0d, hi]
 have hby : i.bytes = a2T P el := by simp [a2T, hi]
 have hn0 : ∃ v w' env', v = .slice none 0 0 ∧ w' = w ∧ Rel P N n0 B M0 w0 F e0 env' (a0L key (.row el ex true []) { st with mem := mem0 }) a w' ∧ v = (env' key).hdr :=
  ⟨_, _, _, rfl, rfl, a5z h hsub key hkey hs, by simp [upd, a3R.hdr]⟩
 rcases hsrc.src with ⟨ao, c, rfl, rfl⟩ | ⟨b, o, c, rfl, hc⟩
 ·obtain ⟨v, w', env', rfl, rfl, h1, h2⟩ := hn0
  refine ⟨_, _, env', ?_, h1, h2⟩
  cases ao <;> simp [Builtin.append_, run_underlying hu, sizeOf, typeInfo, hi, Builtin.lenOf, Builtin.firstCells, loadCells, loadCellsFrom]
 ·cases hys : ys with
  | nil =>
   subst hys
   obtain ⟨v, w', env', rfl, rfl, h1, h2⟩ := hn0
   refine ⟨_, _, env', ?_, h1, h2⟩
   simp [Builtin.append_, run_underlying hu, sizeOf, typeInfo, hi, Builtin.lenOf, Builtin.firstCells, loadCells, loadCellsFrom]
  | cons y ys' =>
   rw [← hys]
   have hne : 0 < ys.length := by rw [hys]; simp
   obtain ⟨news, q1, q2, q3, q4⟩ := b6j hs hpos hc
   have hrun := run_append_nil (P := P) w T ty el i z hu hi hz ⟨b, o, none⟩ ys.length c news (by rw [q1, hsz]) q2 hne (by unfold a0U at hmax; omega) (by rw [hby]; unfold b1h at hroom; omega)
   have hcap := grownCap_ge w ys.length 0 el
   have hcm := grownCap_le_maxLen w ys.length 0 el (by unfold a0U at hmax; unfold maxLen; omega)
   refine ⟨_, _, upd env key ⟨w.heap.size, 0, some (ys.length, grownCap w ys.length 0 el)⟩, hrun, ?_, by simp [upd, a3R.hdr]⟩
   have hemp : ys.isEmpty = false := by rw [hys]; rfl
   rw [hemp]
   refine a3K h hsub key hkey (a2k w _) rfl hs hcap hcm ?_ ?_
   ·simp only [Array.size_append, List.size_toArray, size_zeroCells, hzs, ← hs, q1, ← Nat.add_mul]; congr 1; omega
   ·have := a1t (xs := []) (olds := []) (cur := news.toArray ++ Builtin.zeroCells z.cells (grownCap w ys.length 0 el - ys.length)) (fun i j k hi => by simp at hi) (by simp) q4 q1 (by
     intro q hq
     simp only [List.nil_append, List.length_nil, Nat.zero_add] at hq ⊢
     rw [Array.getElem?_append_left (by simpa using hq)]
     simp)
    simpa using this
theorem b5R (h : Rel P N n0 B M0 w0 F e0 env st a w) {mem0 : AL Obj} (hsub : ∀ k ob, get mem0 k = some ob → get st.mem k = some ob) {T ty el : TypeId} {ad : Addr} (hel : a0t P T = some el) {z : Value} {i : TypeInfo} (hi : P.info? el = some i) (hz : i.zero = some z) (hzs : z.cells.size = (kinds P el).length)
  {ys : List D} {vx : Value} (hsrc : Src P w (Sof P B M0 n0 env st.mem w) el ys vx) (hne : ys.isEmpty = false) (hroom : ys.length * a2T P el ≤ b1h) (hmax : ys.length ≤ a0U) (key : Nat) (hkey : ¬ F key) (ex : Bool) :
  ∃ v w' env', (Builtin.append_ #[T, T] ty #[.slice (some ad) 0 0, vx]).run P w = .ok v w' ∧ Rel P N n0 B M0 w0 F e0 env' (a0L key (.row el ex false ys) { st with mem := mem0 }) a w' ∧ v = (env' key).hdr := by
 obtain ⟨hu, hs, hty, hpos⟩ := a0o hel
 have hsz : i.size = a0d P el := by simp [a0d, hi]
 have hby : i.bytes = a2T P el := by simp [a2T, hi]
 have hl : 0 < ys.length := by cases ys with
  | nil => cases hne
  | cons => simp
 rcases hsrc.src with ⟨ao, c, rfl, rfl⟩ | ⟨b, o, c, rfl, hc⟩
 ·cases hne
 ·obtain ⟨news, q1, q2, q3, q4⟩ := b6j hs hpos hc
  have hrun := run_append_grow (P := P) w T ty el i z hu hi hz ad 0 0 [] (by simp) (fun j v hv => by simp at hv) ⟨b, o, none⟩ ys.length c news (by rw [q1, hsz]) q2 (by omega) (by unfold a0U at hmax; omega) (growslice_fits (by omega) (by rw [hby, Nat.zero_add]; exact hroom))
  rw [Nat.zero_add] at hrun
  have hcap := grownCap_ge w ys.length 0 el
  have hcm := grownCap_le_maxLen w ys.length 0 el (by unfold a0U at hmax; unfold maxLen; omega)
  refine ⟨_, _, upd env key ⟨w.heap.size, 0, some (ys.length, grownCap w ys.length 0 el)⟩, hrun, ?_, by simp [upd, a3R.hdr]⟩
  refine a3K h hsub key hkey (a2k w _) rfl hs hcap hcm ?_ ?_
  ·simp only [Array.size_append, List.size_toArray, List.length_append, List.length_nil, Nat.zero_add, size_zeroCells, hzs, ← hs, q1, ← Nat.add_mul]; congr 1; omega
  ·have := a1t (xs := []) (olds := []) (cur := (([] : List Value) ++ news).toArray ++ Builtin.zeroCells z.cells (grownCap w ys.length 0 el - ys.length)) (fun i j k hi => by simp at hi) (by simp) q4 q1 (by
    intro q hq
    simp only [List.nil_append, List.length_nil, Nat.zero_add] at hq ⊢
    rw [Array.getElem?_append_left (by simpa using hq)]
    simp)
   simpa using this
theorem a0S {mem : AL Obj} {key : Nat} : ∀ k ob, get (del mem key) k = some ob → k ≠ key ∧ get mem k = some ob := by
 intro k ob hg
 rw [b1i] at hg
 by_cases hk : k = key
 ·rw [if_pos hk] at hg; cases hg
 ·rw [if_neg hk] at hg; exact ⟨hk, hg⟩
theorem b5S (h : Rel P N n0 B M0 w0 F e0 env st a w) {key0 : Nat} {T ty el : TypeId} (hel : a0t P T = some el) {ex : Bool} {xs : List D} (hg : get st.mem key0 = some (.row el ex false xs)) {z : Value} {i : TypeInfo} (hi : P.info? el = some i) (hz : i.zero = some z) (hzs : z.cells.size = (kinds P el).length)
  {ys : List D} {vx : Value} (hsrc : Src P w (Sof P B M0 n0 env st.mem w) el ys vx) (hroom : (xs.length + ys.length) * a2T P el ≤ b1h) (hmax : xs.length + ys.length ≤ a0U) (key : Nat) (hkey : ¬ F key) :
  ∃ v w' env', (Builtin.append_ #[T, T] ty #[(env key0).hdr, vx]).run P w = .ok v w' ∧ Rel P N n0 B M0 w0 F e0 env' (a0L key (.row el ex false (xs ++ ys)) { st with mem := del st.mem key0 }) a w' ∧ v = (env' key).hdr := by
 obtain ⟨hu, hs, hty, hpos⟩ := a0o hel
 have hsz : i.size = a0d P el := by simp [a0d, hi]
 have hby : i.bytes = a2T P el := by simp [a2T, hi]
 obtain ⟨_, ⟨hn, _⟩ | ⟨_, hb0, cap, cur, h1, h2, h3, h4, h5, h6⟩⟩ := h.ob _ _ hg
 ·cases hn
 ·obtain ⟨fr, hfr, h2⟩ := h2
  have hsub : ∀ k ob, get (del st.mem key0) k = some ob → get st.mem k = some ob := fun k ob hk => (a0S k ob hk).2
  have holdl : (cur.toList.take (xs.length * a0d P el)).length = xs.length * a0d P el := by
   have := Nat.mul_le_mul_right (a0d P el) h3
   have hcl : cur.toList.length = cap * a0d P el := by simpa using h5
   rw [List.length_take]
   omega
  have holds : ∀ (i j : Nat) (k : CK), i < xs.length → (kinds P el)[j]? = some k → ∃ u, (cur.toList.take (xs.length * a0d P el))[i * a0d P el + j]? = some u ∧ a2e P w (Sof P B M0 n0 env st.mem w) k (elD P el (xs.getD i (.i 0)) j) u := by
   intro i j k hi hk
   obtain ⟨u, hu, hr⟩ := h6 i j k hi hk
   have hj : j < (kinds P el).length := (f55.1 hk).1
   refine ⟨u, ?_, hr⟩
   rw [List.getElem?_take, if_pos (b73 hi (by omega))]
   simpa using hu
  -- the row stays where it is
  have stay : ∀ (news : List Value), news.length = ys.length * a0d P el → (∀ (i j : Nat) (k : CK), i < ys.length → (kinds P el)[j]? = some k → ∃ u, news[i * a0d P el + j]? = some u ∧ a2e P w (Sof P B M0 n0 env st.mem w) k (elD P el (ys.getD i (.i 0)) j) u) → xs.length + ys.length ≤ cap →
    Rel P N n0 B M0 w0 F e0 (upd env key ⟨(env key0).blk, 0, some (xs.length + ys.length, cap)⟩) (a0L key (.row el ex false (xs ++ ys)) { st with mem := del st.mem key0 }) a
     (w.setRow (env key0).blk (cur.toList.take (xs.length * a0d P el) ++ news ++ cur.toList.drop (xs.length * a0d P el + news.length)).toArray) := by
   intro news hnl hnews hcap
   have hfit : xs.length * a0d P el + news.length ≤ cur.size := by rw [hnl, ← Nat.add_mul, h5]; exact Nat.mul_le_mul_right _ hcap
   have hmut0 : ∀ x, xs.length * a0d P el ≤ x → a47 P (env key0) (.row el ex false xs) (env key0).blk x := fun x hx => ⟨rfl, rfl, .inr hx⟩
   refine Rel.new h hsub key hkey _ _ (fun b x => b = (env key0).blk ∧ xs.length * a0d P el ≤ x ∧ x < xs.length * a0d P el + news.length) ?_ ?_ ?_ ?_ ?_ ?_ ?_
   ·refine a5y h2 (by simp; omega) fun x hx => ?_
    rw [a4K hfit, if_neg (fun hc => hx ⟨rfl, hc⟩)]
   ·rintro b x ⟨rfl, hx, _⟩; exact ⟨key0, _, hg, hmut0 x hx⟩
   ·intro k ob _ hk hr
    obtain ⟨hk1, hk2⟩ := a0S k ob hk
    exact setRow_other _ _ _ _ (h.ds k key0 ob _ hk2 hg hr rfl hk1)
   ·intro hk
    refine ⟨hs, .inr ⟨rfl, rfl, cap, _, by simp [a3R.hdr], b17 hfr h2 (by simp; omega), by simpa using hcap, h4, by rw [← h5]; simp; omega, ?_⟩⟩
    have hrc : a3x P w (Sof P B M0 n0 env st.mem w) el (xs ++ ys) (cur.toList.take (xs.length * a0d P el) ++ news ++ cur.toList.drop (xs.length * a0d P el + news.length)).toArray :=
     a1t holds holdl hnews hnl fun q hq => by
      rw [List.getElem?_toArray, List.getElem?_append_left (by simpa using hq)]
    exact hrc.mono hk
   ·intro b x hm
    obtain ⟨_, rfl, hm⟩ := hm
    refine .inr ⟨key0, _, hg, rfl, rfl, ?_⟩
    rcases hm with hm | hm
    ·exact .inl hm
    ·refine .inr ?_
     rw [List.length_append, Nat.add_mul] at hm
     omega
   ·intro _ k ob _ hk hr
    obtain ⟨hk1, hk2⟩ := a0S k ob hk
    exact h.ds k key0 ob _ hk2 hg hr rfl hk1
   ·intro e' ex' xs' he x hx
    simp only [Obj.row.injEq] at he
    obtain ⟨rfl, _, _, rfl⟩ := he
    by_cases hlt : x < xs.length * a0d P el
    ·exact h.pr key0 el ex xs hg x hlt
    ·rcases h.mu key0 _ _ x hg (hmut0 x (by omega)) with h7 | h7
     ·exact .inr (.inr h7)
     ·exact .inr (.inl h7)
  rcases hsrc.src with ⟨ao, c, rfl, rfl⟩ | ⟨b, o, c, rfl, hc⟩
  ·have hst := stay [] (by simp) (fun i j k hi => by simp at hi) (by simpa using h3)
   have hself : w.setRow (env key0).blk (cur.toList.take (xs.length * a0d P el) ++ [] ++ cur.toList.drop (xs.length * a0d P el + ([] : List Value).length)).toArray = w := by
    have : (cur.toList.take (xs.length * a0d P el) ++ [] ++ cur.toList.drop (xs.length * a0d P el + ([] : List Value).length)).toArray = cur := by simp
    rw [this]
    exact setRow_self w _ cur el fr h2
   rw [hself] at hst
   refine ⟨(env key0).hdr, w, _, ?_, hst, by rw [h1]; simp [upd, a3R.hdr]⟩
   rw [h1]
   cases ao <;> simp [Builtin.append_, run_underlying hu, sizeOf, typeInfo, hi, Builtin.lenOf, Builtin.firstCells, h3, storeCells, loadCells, loadCellsFrom]
  ·obtain ⟨news, q1, q2, q3, q4⟩ := b6j hs hpos hc
   by_cases hfitc : xs.length + ys.length ≤ cap
   ·have hrun := b5P (P := P) w T ty el i hu hi (env key0).blk xs.length cap cur fr h2 hfr ⟨b, o, none⟩ ys.length c news (by rw [q1, hsz]) q2 q3 hfitc (by rw [hsz, q1, ← Nat.add_mul, h5]; exact Nat.mul_le_mul_right _ hfitc)
    rw [hsz] at hrun
    refine ⟨_, _, _, by rw [h1]; exact hrun, stay news q1 q4 hfitc, by simp [upd, a3R.hdr]⟩
   ·have hrun := run_append_grow (P := P) w T ty el i z hu hi hz ⟨(env key0).blk, 0, none⟩ xs.length cap (cur.toList.take (xs.length * a0d P el)) (by rw [holdl, hsz]) (fun j v hv => by
      rw [Addr.add_lit, Nat.zero_add]
      rw [List.getElem?_take] at hv
      split at hv
      ·exact a2r h2 (by simpa using hv)
      ·cases hv) ⟨b, o, none⟩ ys.length c news (by rw [q1, hsz]) q2 (by omega) (by unfold a0U at hmax; omega) (growslice_fits (by omega) (by rw [hby]; exact hroom))
    have hcap := grownCap_ge w (xs.length + ys.length) cap el
    have hcm := grownCap_le_maxLen w (xs.length + ys.length) cap el (by unfold a0U at hmax; unfold maxLen; omega)
    refine ⟨_, _, upd env key ⟨w.heap.size, 0, some ((xs ++ ys).length, grownCap w (xs.length + ys.length) cap el)⟩, by rw [h1]; exact hrun, ?_, by simp [upd, a3R.hdr]⟩
    refine a3K h hsub key hkey (a2k w _) rfl hs (by simpa using hcap) hcm ?_ ?_
    ·simp only [Array.size_append, List.size_toArray, size_zeroCells, hzs, ← hs, q1, holdl, ← Nat.add_mul]; congr 1; omega
    ·refine a1t holds holdl q4 q1 fun q hq => ?_
     rw [Array.getElem?_append_left (by simpa using hq)]
     simp [Array.getElem?_append, List.getElem?_append]
end
end Go.AM

namespace Go.AM
open Go

section
variable {P : Program} {N n0 kb : Nat} {F : Nat → Prop} {B M0 : a0Q} {w0 : World} {e0 : b0H} {env : Env} {st : St} {a : Act} {w : World}
theorem b8e {R : Type} {d : Nat} {T el : TypeId} {l c : Operand} {n m : Int} {z : D} {k : St → Option R} {r : R} {o : Oper} {Q : Exit → Act → World → Prop} (h : Rel P N n0 B M0 w0 F e0 env st a w) (hd : d < N) (hF : ¬ F (kb + d)) (ho : o.op = .makeSlice T l c) (hdst : o.dst = some d)
  (hel : a0t P T = some el) (hl : evu st l = .c (.i .i64 n)) (hc : evu st c = .c (.i .i64 m)) (hz : a5g P el = some z) (h0 : 0 ≤ n) (h1 : n ≤ m) (h2 : a2z P el m.toNat = true)
  (hk : k ((a0L (kb + d) (.row el true false (List.replicate n.toNat z)) st).put (some d) (.c (.o (kb + d)))) = some r) : o.wp P a w (a1d P N n0 B M0 w0 F e0 k r) Q := by
 obtain ⟨hu, hs, hty, hpos⟩ := a0o hel
 obtain ⟨v, hrun, ⟨i, hi, hiz⟩, hvs, hvc⟩ := a2t hz
 have hlv : a.eval l = .int .i64 n := by have := h.evu l; rw [hl] at this; exact this
 have hcv : a.eval c = .int .i64 m := by have := h.evu c; rw [hc] at this; exact this
 have hsz : i.size = a0d P el := by simp [a0d, hi]
 have hby : i.bytes = a2T P el := by simp [a2T, hi]
 unfold a2z at h2
 simp only [f5U, decide_eq_true_eq] at h2
 obtain ⟨h3, h4⟩ := h2
 unfold a0U at h4
 unfold b1h at h3
 have em : (m.toNat : Int) = m := Int.toNat_of_nonneg (by omega)
 have hbm : (i.bytes : Int) * m ≤ 140737488355328 := by
  have h5 : ((m.toNat * a2T P el : Nat) : Int) ≤ ((140737488355328 : Nat) : Int) := Int.ofNat_le.2 h3
  rw [Int.natCast_mul, em] at h5
  rw [hby, Int.mul_comm]
  exact h5
 have hmk := run_make (P := P) w T el i v hu hi hiz .i64 .i64 n m h0 h1 (by omega) (by omega)
 rw [hsz] at hmk
 refine a0X (v := .slice (some ⟨w.heap.size, 0, none⟩) n.toNat m.toNat) (w' := push w (.cells ((Array.range (m.toNat * a0d P el)).map (v.cells[· % v.cells.size]!)) el)) ?_ ?_
 ·have hex : execOp a.eval o = (do pure (.value (← Instr.makeSlice T (a.eval l) (a.eval c))) : Sem Next) := by unfold execOp; rw [ho]
  rw [hex, hlv, hcv, f5Y, hmk]
  rfl
 ·have hr := b6i (w := w) hs hvs (hvc w (Sof P B M0 n0 env st.mem w)) n.toNat m.toNat (by omega)
  have hrel := a3K h (mem0 := st.mem) (fun _ _ hg => hg) (kb + d) hF (ex := true) (xs := List.replicate n.toNat z) (cap := m.toNat) (w' := push w (.cells ((Array.range (m.toNat * a0d P el)).map (v.cells[· % v.cells.size]!)) el)) (a6y _ w _) rfl hs (by simp; omega) (by unfold maxLen; omega) (by simp) hr
  rw [hdst]
  refine ⟨_, _, hrel.put (fun _ hdd => by cases hdd; exact hd) ?_, hk⟩
  simp [a0w, a0G, a0x, upd, a3R.hdr]
theorem b4m {R : Type} {d : Nat} {c : Call} {s x : Operand} {T T' el : TypeId} {kk ik : IntKind} {n : Int} {z : D} {k : St → Option R} {r : R} {o : Oper} {Q : Exit → Act → World → Prop}
  (h : Rel P N n0 B M0 w0 F e0 env st a w) (hd : d < N) (hF : ¬ F (kb + d)) (ho : o.op = .call c) (hdst : o.dst = some d) (hc : c.callee = .builtin .append) (ha : c.args.toList = [s, x]) (ht : c.argTypes.toList = [T, T'])
  (hel : a0t P T = some el) (hu' : P.underlying T' = some (.int ik)) (hs : a.eval s = .slice none 0 0) (hx : evu st x = .c (.i kk n)) (hz : a5g P el = some z) (h0 : 0 ≤ n) (h2 : a2z P el n.toNat = true)
  (hk : k ((a0L (kb + d) (.row el true (Nat.beq n.toNat 0) (List.replicate n.toNat z)) st).put (some d) (.c (.o (kb + d)))) = some r) : o.wp P a w (a1d P N n0 B M0 w0 F e0 k r) Q := by
 obtain ⟨hu, hsl, hty, hpos⟩ := a0o hel
 obtain ⟨v, hrun, ⟨i, hi, hiz⟩, hvs, hvc⟩ := a2t hz
 have hxv : a.eval x = .int kk n := by have := h.evu x; rw [hx] at this; exact this
 have hsz : i.size = a0d P el := by simp [a0d, hi]
 have hby : i.bytes = a2T P el := by simp [a2T, hi]
 have ha' : c.args = #[s, x] := by rw [← Array.toList_inj]; exact ha
 have ht' : c.argTypes = #[T, T'] := by rw [← Array.toList_inj]; exact ht
 have hexec : ∀ {v : Value} {w' : World}, (Builtin.append_ #[T, T'] o.type #[a.eval s, a.eval x]).run P w = .ok v w' → (execOp a.eval o).run P w = .ok (.value v) w' := by
  intro v w' hr
  simp only [execOp, ho, resolve, hc, ha', ht', f5Y, f5Z, f5V, invoke, builtin, List.map_toArray, List.map_cons, List.map_nil, hr]
 unfold a2z at h2
 simp only [f5U, decide_eq_true_eq] at h2
 obtain ⟨h3, h4⟩ := h2
 unfold a0U at h4
 unfold b1h at h3
 obtain ⟨m, rfl⟩ := Int.eq_ofNat_of_zero_le h0
 rw [Int.toNat_natCast] at h3 h4 hk
 have fin : ∀ {v : Value} {w' : World} {env' : Env}, (Builtin.append_ #[T, T'] o.type #[a.eval s, a.eval x]).run P w = .ok v w' → Rel P N n0 B M0 w0 F e0 env' (a0L (kb + d) (.row el true (Nat.beq m 0) (List.replicate m z)) st) a w' → v = (env' (kb + d)).hdr → o.wp P a w (a1d P N n0 B M0 w0 F e0 k r) Q := by
  intro v w' env' h1 h2 h3
  refine a0X (hexec h1) ?_
  rw [hdst]
  exact ⟨env', _, h2.put (fun _ hdd => by cases hdd; exact hd) (a0w.of (x := .c (.o (kb + d))) h3), hk⟩
 cases m with
 | zero =>
  refine fin (v := .slice none 0 0) (w' := w) (env' := upd env (kb + d) ⟨0, 0, none⟩) ?_ (a5z h (mem0 := st.mem) (fun _ _ hg => hg) (kb + d) hF hsl) (by simp [upd, a3R.hdr])
  rw [hs, hxv]
  have h48 : ¬ ((i.bytes : Int) * 0 > 281474976710656) := by omega
  simp [Builtin.append_, run_underlying hu, run_underlying hu', sizeOf, typeInfo, hi, asInt, asIntOf, IntKind.wrap_i64]
 | succ m =>
  have hap := Lib.run_append_nil_zeros (P := P) w T T' o.type el i v kk ik hu hu' hi hiz (m + 1) (by omega) (by rw [hsz]; exact hpos) (by omega) (by rw [hby]; omega)
  have hcap := grownCap_ge w (m + 1) 0 el
  have hcm := grownCap_le_maxLen w (m + 1) 0 el (by unfold maxLen; omega)
  have hr0 := b6i (w := w) hsl hvs (hvc w (Sof P B M0 n0 env st.mem w)) (m + 1) (m + 1) (Nat.le_refl _)
  have hrel := a3K h (mem0 := st.mem) (fun _ _ hg => hg) (kb + d) hF (ex := true) (xs := List.replicate (m + 1) z) (cap := grownCap w (m + 1) 0 el) (w' := w.drew.alloc (.cells (Builtin.zeroCells v.cells (m + 1) ++ Builtin.zeroCells v.cells (grownCap w (m + 1) 0 el - (m + 1))) el)) (a2k w _) rfl hsl (by simp; omega) hcm (by
   simp only [Array.size_append, size_zeroCells, hvs, ← hsl, ← Nat.add_mul]
   congr 1; omega) (by
   intro i' j k' hi' hk'
   obtain ⟨u, hu1, hu2⟩ := hr0 i' j k' hi' hk'
   refine ⟨u, ?_, hu2⟩
   have hlt := (f53.1 hu1).1
   have hzc : Builtin.zeroCells v.cells (m + 1) = (Array.range ((m + 1) * a0d P el)).map (v.cells[· % v.cells.size]!) := by
    unfold Builtin.zeroCells
    rw [hvs, hsl]
   rw [hzc, Array.getElem?_append_left hlt]
   exact hu1)
  refine fin (v := .slice (some ⟨w.heap.size, 0, none⟩) (m + 1) (grownCap w (m + 1) 0 el)) ?_ (env' := upd env (kb + d) ⟨w.heap.size, 0, some (m + 1, grownCap w (m + 1) 0 el)⟩) (by rw [List.length_replicate] at hrel; exact hrel) (by simp [upd, a3R.hdr])
  rw [hs, hxv]
  exact hap
theorem d4V (h : Rel P N n0 B M0 w0 F e0 env st a w) {key0 : Nat} {T el : TypeId} (hel : a0t P T = some el) {ex : Bool} {xs : List D} (hg : get st.mem key0 = some (.row el ex false xs)) {z : Value} (hzs : z.cells.size = (kinds P el).length)
  {ys : List D} {news : List Value} (hnl : news.length = ys.length * a0d P el) (hnews : ∀ (i j : Nat) (k : CK), i < ys.length → (kinds P el)[j]? = some k → ∃ u, news[i * a0d P el + j]? = some u ∧ a2e P w (Sof P B M0 n0 env st.mem w) k (elD P el (ys.getD i (.i 0)) j) u) (key : Nat) (hkey : ¬ F key) :
  ∃ cap cur fr, (env key0).hdr = .slice (some ⟨(env key0).blk, 0, none⟩) xs.length cap ∧ w.heap[(env key0).blk]? = some (.cells cur el fr) ∧ e30 fr cur.size ∧ xs.length ≤ cap ∧ cap ≤ maxLen ∧ cur.size = cap * a0d P el ∧ (cur.toList.take (xs.length * a0d P el)).length = xs.length * a0d P el ∧
   (xs.length + ys.length ≤ cap → Rel P N n0 B M0 w0 F e0 (upd env key ⟨(env key0).blk, 0, some (xs.length + ys.length, cap)⟩) (a0L key (.row el ex false (xs ++ ys)) { st with mem := del st.mem key0 }) a
     (w.setRow (env key0).blk (cur.toList.take (xs.length * a0d P el) ++ news ++ cur.toList.drop (xs.length * a0d P el + news.length)).toArray)) ∧
   (∀ c', xs.length + ys.length ≤ c' → c' ≤ maxLen → Rel P N n0 B M0 w0 F e0 (upd env key ⟨w.heap.size, 0, some (xs.length + ys.length, c')⟩) (a0L key (.row el ex false (xs ++ ys)) { st with mem := del st.mem key0 }) a
     (w.drew.alloc (.cells ((cur.toList.take (xs.length * a0d P el)).toArray ++ news.toArray ++ Builtin.zeroCells z.cells (c' - (xs.length + ys.length))) el))) := by
 obtain ⟨hu, hs, hty, hpos⟩ := a0o hel
 obtain ⟨_, ⟨hn, _⟩ | ⟨_, hb0, cap, cur, h1, h2, h3, h4, h5, h6⟩⟩ := h.ob _ _ hg
 ·cases hn
 ·obtain ⟨fr, hfr, h2⟩ := h2
  have hsub : ∀ k ob, get (del st.mem key0) k = some ob → get st.mem k = some ob := fun k ob hk => (a0S k ob hk).2
  have holdl : (cur.toList.take (xs.length * a0d P el)).length = xs.length * a0d P el := by
   have := Nat.mul_le_mul_right (a0d P el) h3
   have hcl : cur.toList.length = cap * a0d P el := by simpa using h5
   rw [List.length_take]
   omega
  have holds : ∀ (i j : Nat) (k : CK), i < xs.length → (kinds P el)[j]? = some k → ∃ u, (cur.toList.take (xs.length * a0d P el))[i * a0d P el + j]? = some u ∧ a2e P w (Sof P B M0 n0 env st.mem w) k (elD P el (xs.getD i (.i 0)) j) u := by
   intro i j k hi hk
   obtain ⟨u, hu, hr⟩ := h6 i j k hi hk
   have hj : j < (kinds P el).length := (f55.1 hk).1
   refine ⟨u, ?_, hr⟩
   rw [List.getElem?_take, if_pos (b73 hi (by omega))]
   simpa using hu
  refine ⟨cap, cur, fr, h1, h2, hfr, h3, h4, h5, holdl, ?_, ?_⟩
  ·intro hcap
   have hfit : xs.length * a0d P el + news.length ≤ cur.size := by rw [hnl, ← Nat.add_mul, h5]; exact Nat.mul_le_mul_right _ hcap
   have hmut0 : ∀ x, xs.length * a0d P el ≤ x → a47 P (env key0) (.row el ex false xs) (env key0).blk x := fun x hx => ⟨rfl, rfl, .inr hx⟩
   refine Rel.new h hsub key hkey _ _ (fun b x => b = (env key0).blk ∧ xs.length * a0d P el ≤ x ∧ x < xs.length * a0d P el + news.length) ?_ ?_ ?_ ?_ ?_ ?_ ?_
   ·refine a5y h2 (by simp; omega) fun x hx => ?_
    rw [a4K hfit, if_neg (fun hc => hx ⟨rfl, hc⟩)]
   ·rintro b x ⟨rfl, hx, _⟩; exact ⟨key0, _, hg, hmut0 x hx⟩
   ·intro k ob _ hk hr
    obtain ⟨hk1, hk2⟩ := a0S k ob hk
    exact setRow_other _ _ _ _ (h.ds k key0 ob _ hk2 hg hr rfl hk1)
   ·intro hk
    refine ⟨hs, .inr ⟨rfl, rfl, cap, _, by simp [a3R.hdr], b17 hfr h2 (by simp; omega), by simpa using hcap, h4, by rw [← h5]; simp; omega, ?_⟩⟩
    have hrc : a3x P w (Sof P B M0 n0 env st.mem w) el (xs ++ ys) (cur.toList.take (xs.length * a0d P el) ++ news ++ cur.toList.drop (xs.length * a0d P el + news.length)).toArray :=
     a1t holds holdl hnews hnl fun q hq => by
      rw [List.getElem?_toArray, List.getElem?_append_left (by simpa using hq)]
    exact hrc.mono hk
   ·intro b x hm
    obtain ⟨_, rfl, hm⟩ := hm
    refine .inr ⟨key0, _, hg, rfl, rfl, ?_⟩
    rcases hm with hm | hm
    ·exact .inl hm
    ·refine .inr ?_
     rw [List.length_append, Nat.add_mul] at hm
     omega
   ·intro _ k ob _ hk hr
    obtain ⟨hk1, hk2⟩ := a0S k ob hk
    exact h.ds k key0 ob _ hk2 hg hr rfl hk1
   ·intro e' ex' xs' he x hx
    simp only [Obj.row.injEq] at he
    obtain ⟨rfl, _, _, rfl⟩ := he
    by_cases hlt : x < xs.length * a0d P el
    ·exact h.pr key0 el ex xs hg x hlt
    ·rcases h.mu key0 _ _ x hg (hmut0 x (by omega)) with h7 | h7
     ·exact .inr (.inr h7)
     ·exact .inr (.inl h7)
  ·intro c' hc1 hc2
   have hrel := a3K (w' := w.drew.alloc (.cells ((cur.toList.take (xs.length * a0d P el)).toArray ++ news.toArray ++ Builtin.zeroCells z.cells (c' - (xs.length + ys.length))) el)) (cap := c') (ex := ex) (xs := xs ++ ys) h hsub key hkey (a2k w _) rfl hs (by simpa using hc1) hc2 (by
    simp only [Array.size_append, List.size_toArray, size_zeroCells, hzs, ← hs, hnl, holdl, ← Nat.add_mul]; congr 1; omega) (by
    refine a1t holds holdl hnews hnl fun q hq => ?_
    rw [Array.getElem?_append_left (by simpa using hq)]
    simp [Array.getElem?_append, List.getElem?_append])
   rw [List.length_append] at hrel
   exact hrel
theorem c0o {el : TypeId} (h8 : b9z P el = true) (hs1 : a0d P el = 1) (l : List UInt8) {S : a0Q} : (Lib.strCells ⟨l.toArray⟩).length = (a1G l).length * a0d P el ∧
  ∀ (i j : Nat) (k : CK), i < (a1G l).length → (kinds P el)[j]? = some k → ∃ u, (Lib.strCells ⟨l.toArray⟩)[i * a0d P el + j]? = some u ∧ a2e P w S k (elD P el ((a1G l).getD i (.i 0)) j) u := by
 obtain ⟨hkk, ha⟩ := a9L h8
 refine ⟨by simp [Lib.strCells, a1G, hs1], fun i j k hi hk => ?_⟩
 rw [hkk] at hk
 have hj0 : j = 0 ∧ k = .int .u8 := by
  cases j with
  | zero => simp at hk; exact ⟨rfl, hk.symm⟩
  | succ j => simp at hk
 obtain ⟨rfl, rfl⟩ := hj0
 have hi' : i < l.length := by simpa [a1G] using hi
 refine ⟨.int .u8 ((l[i]).toNat : Int), by rw [hs1]; simp [Lib.strCells, hi'], ?_⟩
 have : (a1G l).getD i (.i 0) = .i ((l[i]).toNat : Int) := by
  rw [f51]; simp [a1G, e0o, hi']
 unfold elD
 rw [ha, this]
 exact .int .u8 (.i ((l[i]).toNat : Int))
section
variable {R : Type} {d : Nat} {c : Call} {s x : Operand} {T T' el : TypeId} {k : St → Option R} {r : R} {o : Oper} {Q : Exit → Act → World → Prop}
theorem c7u (ho : o.op = .call c) (hc : c.callee = .builtin .append) (ha : c.args.toList = [s, x]) (ht : c.argTypes.toList = [T, T']) {v : Value} {w' : World} (hr : (Builtin.append_ #[T, T'] o.type #[a.eval s, a.eval x]).run P w = .ok v w') : (execOp a.eval o).run P w = .ok (.value v) w' := by
 have ha' : c.args = #[s, x] := by rw [← Array.toList_inj]; exact ha
 have ht' : c.argTypes = #[T, T'] := by rw [← Array.toList_inj]; exact ht
 simp only [execOp, ho, resolve, hc, ha', ht', f5Y, f5Z, f5V, invoke, builtin, List.map_toArray, List.map_cons, List.map_nil, hr]
theorem a5A (hd : d < N) (hdst : o.dst = some d) (ho : o.op = .call c) (hc : c.callee = .builtin .append) (ha : c.args.toList = [s, x]) (ht : c.argTypes.toList = [T, T']) {v : Value} {w' : World} {env' : Env} {o' : Obj} {mem0 : AL Obj} (h1 : (Builtin.append_ #[T, T'] o.type #[a.eval s, a.eval x]).run P w = .ok v w') (h2 : Rel P N n0 B M0 w0 F e0 env' (a0L (kb + d) o' { st with mem := mem0 }) a w') (h3 : v = (env' (kb + d)).hdr)
  (hk : k ((a0L (kb + d) o' { st with mem := mem0 }).put (some d) (.c (.o (kb + d)))) = some r) : o.wp P a w (a1d P N n0 B M0 w0 F e0 k r) Q := by
 refine a0X (c7u ho hc ha ht h1) ?_
 rw [hdst]
 exact ⟨env', _, h2.put (fun _ hdd => by cases hdd; exact hd) (a0w.of (x := .c (.o (kb + d))) h3), hk⟩
theorem a6z {l : List UInt8} (h : Rel P N n0 B M0 w0 F e0 env st a w) (hd : d < N) (hF : ¬ F (kb + d)) (ho : o.op = .call c) (hdst : o.dst = some d) (hc : c.callee = .builtin .append) (ha : c.args.toList = [s, x]) (ht : c.argTypes.toList = [T, T'])
  (hel : a0t P T = some el) (hu' : P.underlying T' = some .string) (hs : a.eval s = .slice none 0 0) (hx : evu st x = .c (.s l)) {z : D} (hz : a5g P el = some z) (h8 : b9z P el = true) (h2 : a2z P el l.length = true) (ex : Bool) {mem0 : AL Obj} (hsub : ∀ k ob, get mem0 k = some ob → get st.mem k = some ob)
  (hk : k ((a0L (kb + d) (.row el ex l.isEmpty (a1G l)) { st with mem := mem0 }).put (some d) (.c (.o (kb + d)))) = some r) : o.wp P a w (a1d P N n0 B M0 w0 F e0 k r) Q := by
 obtain ⟨hu, hsl, hty, hpos⟩ := a0o hel
 obtain ⟨v, hrun, ⟨i, hi, hiz⟩, hvs, hvc⟩ := a2t hz
 obtain ⟨hkk, hagg⟩ := a9L h8
 have hs1 : a0d P el = 1 := by rw [hsl, hkk]; rfl
 have hsz : i.size = a0d P el := by simp [a0d, hi]
 have hby : i.bytes = a2T P el := by simp [a2T, hi]
 have hxv : a.eval x = .string ⟨l.toArray⟩ := by have := h.evu x; rw [hx] at this; exact this
 have hsize : (⟨l.toArray⟩ : ByteArray).size = l.length := by simp [ByteArray.size]
 unfold a2z at h2
 simp only [f5U, decide_eq_true_eq] at h2
 obtain ⟨h3, h4⟩ := h2
 unfold a0U at h4
 unfold b1h at h3
 cases hl : l with
 | nil =>
  subst hl
  refine a5A hd hdst ho hc ha ht (v := .slice none 0 0) (w' := w) (env' := upd env (kb + d) ⟨0, 0, none⟩) ?_ (a5z h hsub (kb + d) hF hsl) (by simp [upd, a3R.hdr]) hk
  rw [hs, hxv]
  simp [Builtin.append_, run_underlying hu, run_underlying hu', sizeOf, typeInfo, hi, Builtin.lenOf, Builtin.firstCells, ByteArray.size]
 | cons b r' =>
  have hne : 0 < l.length := by rw [hl]; simp
  have hrun := run_append_nil_string (P := P) w T T' o.type el i v hu hu' hi hiz ⟨l.toArray⟩ (by omega) (by omega) (by rw [hsize, hby]; omega)
  rw [hsize] at hrun
  have hcap := grownCap_ge w l.length 0 el
  have hcm := grownCap_le_maxLen w l.length 0 el (by unfold maxLen; omega)
  obtain ⟨nl1, nl2⟩ := c0o (P := P) (w := w) h8 hs1 l (S := Sof P B M0 n0 env st.mem w)
  have hbl : (a1G l).length = l.length := by simp [a1G]
  have hemp : l.isEmpty = false := by rw [hl]; rfl
  rw [hemp] at hk
  have hcells : (⟨l.toArray⟩ : ByteArray).data.map (fun b => Value.int .u8 b.toNat) = (Lib.strCells ⟨l.toArray⟩).toArray := by simp [Lib.strCells]
  rw [hcells] at hrun
  refine a5A hd hdst ho hc ha ht (env' := upd env (kb + d) ⟨w.heap.size, 0, some (l.length, grownCap w l.length 0 el)⟩) (by rw [hs, hxv]; exact hrun) ?_ (by simp [upd, a3R.hdr]) hk
  have hrel := a3K (w' := w.drew.alloc (.cells ((Lib.strCells ⟨l.toArray⟩).toArray ++ Builtin.zeroCells v.cells (grownCap w l.length 0 el - l.length)) el)) (cap := grownCap w l.length 0 el) (ex := ex) (xs := a1G l) h hsub (kb + d) hF (a2k w _) rfl hsl (by rw [hbl]; exact hcap) hcm (by
   simp only [Array.size_append, List.size_toArray, size_zeroCells, hvs, ← hsl, nl1, hbl, ← Nat.add_mul]; congr 1; omega) (by
   have := a1t (xs := []) (olds := []) (cur := (Lib.strCells ⟨l.toArray⟩).toArray ++ Builtin.zeroCells v.cells (grownCap w l.length 0 el - l.length)) (fun i j k hi => by simp at hi) (by simp) nl2 nl1 (by
    intro q hq
    simp only [List.nil_append, List.length_nil, Nat.zero_add] at hq ⊢
    rw [Array.getElem?_append_left (by simpa using hq)]
    simp)
   simpa using this)
  rw [hbl] at hrel
  exact hrel
theorem b8f {key : Nat} {ex nl : Bool} {xs : List D} {l : List UInt8} (h : Rel P N n0 B M0 w0 F e0 env st a w) (hd : d < N) (hF : ¬ F (kb + d)) (ho : o.op = .call c) (hdst : o.dst = some d) (hc : c.callee = .builtin .append) (ha : c.args.toList = [s, x]) (ht : c.argTypes.toList = [T, T'])
  (hel : a0t P T = some el) (hu' : P.underlying T' = some .string) (hes : evu st s = .c (.o key)) (hx : evu st x = .c (.s l)) (hg : get st.mem key = some (.row el ex nl xs)) {z : D} (hz : a5g P el = some z) (h8 : b9z P el = true) (h2 : a2z P el (xs.length + l.length) = true)
  (hk : k ((a0L (kb + d) (.row el ex (l.isEmpty && nl) (xs ++ a1G l)) { st with mem := del st.mem key }).put (some d) (.c (.o (kb + d)))) = some r) : o.wp P a w (a1d P N n0 B M0 w0 F e0 k r) Q := by
 have hsv : a.eval s = (env key).hdr := by have := h.evu s; rw [hes] at this; exact this
 cases nl with
 | true =>
  obtain ⟨_, ⟨_, rfl, hnil⟩ | ⟨hf, _⟩⟩ := h.ob _ _ hg
  ·rw [List.length_nil, Nat.zero_add] at h2
   refine a6z h hd hF ho hdst hc ha ht hel hu' (hsv.trans hnil) hx hz h8 h2 ex (mem0 := del st.mem key) (fun k ob hgk => (a0S k ob hgk).2) ?_
   simpa using hk
  ·cases hf
 | false =>
 obtain ⟨hu, hsl, hty, hpos⟩ := a0o hel
 obtain ⟨v, hrun, ⟨i, hi, hiz⟩, hvs, hvc⟩ := a2t hz
 obtain ⟨hkk, hagg⟩ := a9L h8
 have hs1 : a0d P el = 1 := by rw [hsl, hkk]; rfl
 have hsz : i.size = a0d P el := by simp [a0d, hi]
 have hby : i.bytes = a2T P el := by simp [a2T, hi]
 have hxv : a.eval x = .string ⟨l.toArray⟩ := by have := h.evu x; rw [hx] at this; exact this
 have hsize : (⟨l.toArray⟩ : ByteArray).size = l.length := by simp [ByteArray.size]
 unfold a2z at h2
 simp only [f5U, decide_eq_true_eq] at h2
 obtain ⟨h3, h4⟩ := h2
 obtain ⟨nl1, nl2⟩ := c0o (P := P) (w := w) h8 hs1 l (S := Sof P B M0 n0 env st.mem w)
 have hbl : (a1G l).length = l.length := by simp [a1G]
 obtain ⟨cap, cur, fr, q1, q2, q3, q4, q5, q6, q7, q8, q9⟩ := d4V h hel hg hvs nl1 nl2 (kb + d) hF
 rw [hbl] at q8 q9
 have hand : (l.isEmpty && false) = false := by simp
 rw [hand] at hk
 have hsl' : (Lib.strCells ⟨l.toArray⟩).length = l.length := by rw [nl1, hbl, hs1, Nat.mul_one]
 by_cases hfitc : xs.length + l.length ≤ cap
 ·refine a5A (v := .slice (some ⟨(env key).blk, 0, none⟩) (xs.length + l.length) cap) hd hdst ho hc ha ht ?_ (q8 hfitc) (by simp [upd, a3R.hdr]) hk
  rw [hsv, hxv, q1]
  have hf := Lib.run_firstCells_string (P := P) w 1 ⟨l.toArray⟩
  have hst := a1q P (env key).blk xs.length el fr (Lib.strCells ⟨l.toArray⟩) 0 cur w q2 q3 (by rw [hsl', q6, hs1]; omega) (Lib.strCells_oneCell _)
  simp only [Nat.add_zero] at hst
  rw [hs1] at hsz
  rw [hsize] at hf
  simp [Builtin.append_, run_underlying hu, run_underlying hu', sizeOf, typeInfo, hi, hsz, Builtin.lenOf, hsize, hfitc, hf, Addr.add_lit, hst, hs1]
 ·refine a5A (v := .slice (some ⟨w.heap.size, 0, none⟩) (xs.length + l.length) (grownCap w (xs.length + l.length) cap el)) hd hdst ho hc ha ht ?_ (q9 (grownCap w (xs.length + l.length) cap el) (grownCap_ge w (xs.length + l.length) cap el) (grownCap_le_maxLen w (xs.length + l.length) cap el (by unfold a0U at h4; unfold maxLen; omega))) (by simp [upd, a3R.hdr]) hk
  rw [hsv, hxv, q1]
  have hrun := Lib.run_append_grow_string (P := P) w T T' o.type el i v hu hu' hi hiz ⟨(env key).blk, 0, none⟩ xs.length cap (cur.toList.take (xs.length * a0d P el)) (by rw [q7, hsz]) (fun j v hv => by
   rw [Addr.add_lit, Nat.zero_add]
   rw [List.getElem?_take] at hv
   split at hv
   ·exact a2r q2 (by simpa using hv)
   ·cases hv) ⟨l.toArray⟩ (by rw [hsize]; omega) (by rw [hsize]; unfold a0U at h4; omega) (by rw [hsize]; exact growslice_fits (by omega) (by rw [hby]; exact h3))
  rw [hsize] at hrun
  exact hrun
theorem d4W {el : TypeId} {z : D} {v : Value} (hs : a0d P el = (kinds P el).length) (hv : v.cells.size = (kinds P el).length) {S : a0Q} (hc : ∀ (j : Nat) (k : CK), (kinds P el)[j]? = some k → ∃ u, v.cells[j]? = some u ∧ a2e P w S k (elD P el z j) u) (n : Nat) :
  (Builtin.zeroCells v.cells n).toList.length = (List.replicate n z).length * a0d P el ∧ (∀ u ∈ (Builtin.zeroCells v.cells n).toList, u.oneCell' = true) ∧
  ∀ (i j : Nat) (k : CK), i < (List.replicate n z).length → (kinds P el)[j]? = some k → ∃ u, (Builtin.zeroCells v.cells n).toList[i * a0d P el + j]? = some u ∧ a2e P w S k (elD P el ((List.replicate n z).getD i (.i 0)) j) u := by
 have hr0 := b6i (w := w) hs hv hc n n (Nat.le_refl _)
 have hzc : Builtin.zeroCells v.cells n = (Array.range (n * a0d P el)).map (v.cells[· % v.cells.size]!) := by
  unfold Builtin.zeroCells
  rw [hv, hs]
 refine ⟨by rw [Array.length_toList, size_zeroCells, hv, hs, List.length_replicate], ?_, ?_⟩
 ·intro u hu
  obtain ⟨q, hq⟩ := List.getElem?_of_mem hu
  have hql : q < n * a0d P el := by
   have := (f55.1 hq).1
   rw [Array.length_toList, size_zeroCells, hv, ← hs] at this
   exact this
  have hpos : 0 < a0d P el := by
   rcases Nat.eq_zero_or_pos (a0d P el) with e | e
   ·rw [e] at hql; omega
   ·exact e
  have hi : q / a0d P el < n := Nat.div_lt_of_lt_mul (by rw [Nat.mul_comm]; exact hql)
  have hj : q % a0d P el < (kinds P el).length := by rw [← hs]; exact Nat.mod_lt _ hpos
  obtain ⟨u', hu', hr⟩ := hr0 (q / a0d P el) (q % a0d P el) _ (by rw [List.length_replicate]; exact hi) (f58 hj)
  have e : q / a0d P el * a0d P el + q % a0d P el = q := by rw [Nat.mul_comm]; exact Nat.div_add_mod q _
  rw [e, ← hzc, ← Array.getElem?_toList, hq] at hu'
  simp only [f5S] at hu'
  subst hu'
  exact c9S hr
 ·intro i j k hi hk
  obtain ⟨u, hu, hr⟩ := hr0 i j k hi hk
  refine ⟨u, ?_, hr⟩
  rw [Array.getElem?_toList, hzc]
  exact hu
theorem b0I {kk ik : IntKind} {n : Int} {key : Nat} {ex : Bool} {xs : List D} (h : Rel P N n0 B M0 w0 F e0 env st a w) (hd : d < N) (hF : ¬ F (kb + d)) (ho : o.op = .call c) (hdst : o.dst = some d) (hc : c.callee = .builtin .append) (ha : c.args.toList = [s, x]) (ht : c.argTypes.toList = [T, T'])
  (hel : a0t P T = some el) (hu' : P.underlying T' = some (.int ik)) (hes : evu st s = .c (.o key)) (hx : evu st x = .c (.i kk n)) (hg : get st.mem key = some (.row el ex false xs)) {z : D} (hz : a5g P el = some z) (h0 : 0 ≤ n) (h2 : a2z P el (xs.length + n.toNat) = true)
  (hk : k ((a0L (kb + d) (.row el ex false (xs ++ List.replicate n.toNat z)) { st with mem := del st.mem key }).put (some d) (.c (.o (kb + d)))) = some r) : o.wp P a w (a1d P N n0 B M0 w0 F e0 k r) Q := by
 have hsv : a.eval s = (env key).hdr := by have := h.evu s; rw [hes] at this; exact this
 obtain ⟨hu, hsl, hty, hpos⟩ := a0o hel
 obtain ⟨v, hrun, ⟨i, hi, hiz⟩, hvs, hvc⟩ := a2t hz
 have hxv : a.eval x = .int kk n := by have := h.evu x; rw [hx] at this; exact this
 have hsz : i.size = a0d P el := by simp [a0d, hi]
 have hby : i.bytes = a2T P el := by simp [a2T, hi]
 obtain ⟨m, rfl⟩ := Int.eq_ofNat_of_zero_le h0
 rw [Int.toNat_natCast] at h2 hk
 unfold a2z at h2
 simp only [f5U, decide_eq_true_eq] at h2
 obtain ⟨h3, h4⟩ := h2
 unfold a0U at h4
 obtain ⟨nl1, nl3, nl2⟩ := d4W (P := P) (w := w) hsl hvs (hvc w (Sof P B M0 n0 env st.mem w)) m
 obtain ⟨cap, cur, fr, q1, q2, q3, q4, q5, q6, q7, q8, q9⟩ := d4V h hel hg hvs nl1 nl2 (kb + d) hF
 rw [List.length_replicate] at q8 q9
 have nl1' : (Builtin.zeroCells v.cells m).toList.length = m * a0d P el := by rw [nl1, List.length_replicate]
 have hroom := h3
 unfold b1h at h3
 have hmb : m * i.bytes ≤ 140737488355328 := by rw [hby]; exact Nat.le_trans (Nat.mul_le_mul_right _ (by omega)) h3
 have hw : IntKind.i64.wrap (m : Int) = m := by rw [IntKind.wrap_i64]; omega
 have h48i : ¬ (281474976710656 < (m : Int) * (i.bytes : Int)) := by
  rw [← Int.natCast_mul]; omega
 have hneg : ¬ ((m : Int) < 0) := by omega
 by_cases hfitc : xs.length + m ≤ cap
 ·refine a5A (v := .slice (some ⟨(env key).blk, 0, none⟩) (xs.length + m) cap) hd hdst ho hc ha ht ?_ (q8 hfitc) (by simp [upd, a3R.hdr]) hk
  rw [hsv, hxv, q1]
  have hst := a1q P (env key).blk (xs.length * a0d P el) el fr (Builtin.zeroCells v.cells m).toList 0 cur w q2 q3 (by rw [nl1', q6]; have := Nat.mul_le_mul_right (a0d P el) hfitc; rw [Nat.add_mul] at this; omega) nl3
  simp only [Nat.add_zero] at hst
  by_cases hm0 : m = 0
  ·subst hm0
   have hz0 : Builtin.zeroCells v.cells 0 = #[] := by simp [Builtin.zeroCells]
   rw [hz0] at hst ⊢
   simp only [List.length_nil] at hst
   have e0 : ¬ ((281474976710656 : Int) < 0) := by omega
   have hw0 : IntKind.i64.wrap 0 = 0 := by decide
   simp [Builtin.append_, run_underlying hu, run_underlying hu', sizeOf, typeInfo, hi, asInt, asIntOf, hw0, q4, Addr.add_lit, hsz] at hst ⊢
   simp [hst]
  ·have hns : ¬ (m * i.size = 0) := Nat.mul_ne_zero hm0 (by omega)
   rw [hsz] at hns
   simp [Builtin.append_, run_underlying hu, run_underlying hu', sizeOf, typeInfo, zeroValue, hi, hiz, asInt, asIntOf, hw, hneg, h48i, hns, hfitc, Addr.add_lit, hsz, hst]
 ·have hmp : 0 < m := by omega
  refine a5A (v := .slice (some ⟨w.heap.size, 0, none⟩) (xs.length + m) (grownCap w (xs.length + m) cap el)) hd hdst ho hc ha ht ?_ (q9 (grownCap w (xs.length + m) cap el) (grownCap_ge w (xs.length + m) cap el) (grownCap_le_maxLen w (xs.length + m) cap el (by unfold maxLen; omega))) (by simp [upd, a3R.hdr]) hk
  rw [hsv, hxv, q1]
  have hfc := run_firstCells_some (P := P) w.drew i.size xs.length ⟨(env key).blk, 0, none⟩ xs.length cap (cur.toList.take (xs.length * a0d P el)) (by rw [q7, hsz]) (fun j v hv => by
   rw [Addr.add_lit, Nat.zero_add]
   rw [List.getElem?_take] at hv
   split at hv
   ·have := a2r (o := j) q2 (by simpa using hv)
    simpa using this
   ·cases hv)
  have hrun := Lib.run_append_grow_zeros (P := P) w T T' o.type el i v kk ik hu hu' hi hiz (some ⟨(env key).blk, 0, none⟩) xs.length cap (cur.toList.take (xs.length * a0d P el)) hfc m hmp (by rw [hsz]; exact hpos) (by omega) (by omega) (by omega) (growslice_fits (by omega) (by rw [hby]; exact hroom))
  rw [hrun]
end
theorem b9C {R : Type} {d : Nat} {T el : TypeId} {x hi : Operand} {key : Nat} {nl : Bool} {xs : List D} {kk : IntKind} {n : Int} {k : St → Option R} {r : R} {o : Oper} {Q : Exit → Act → World → Prop}
  (h : Rel P N n0 B M0 w0 F e0 env st a w) (hd : d < N) (hF : ¬ F (kb + d)) (ho : o.op = .slice T x none (some hi) none) (hdst : o.dst = some d)
  (hx : evu st x = .c (.o key)) (hg : get st.mem key = some (.row el true nl xs)) (hhi : evu st hi = .c (.i kk n)) (hel : a0t P T = some el) (h0 : 0 ≤ n) (h1 : n ≤ xs.length)
  (hk : k ((a0L (kb + d) (.row el true nl (xs.take n.toNat)) { st with mem := del st.mem key }).put (some d) (.c (.o (kb + d)))) = some r) : o.wp P a w (a1d P N n0 B M0 w0 F e0 k r) Q := by
 obtain ⟨hu, hsl, hty, hpos⟩ := a0o hel
 have hxv : a.eval x = (env key).hdr := by have := h.evu x; rw [hx] at this; exact this
 have hhv : a.eval hi = .int kk n := by have := h.evu hi; rw [hhi] at this; exact this
 have hsub : ∀ k ob, get (del st.mem key) k = some ob → get st.mem k = some ob := fun k ob hk => (a0S k ob hk).2
 have hrun : ∀ (ad : Option Addr) (cap : Nat), xs.length ≤ cap → (Instr.sliceAt T (.slice ad xs.length cap) none (some (.int kk n)) none).run P w = .ok (.slice (if cap = 0 then ad else ad.map (·.add 0)) n.toNat cap) w := by
  intro ad cap hcap
  have hr := a9K (P := P) (w := w) (isS := true) (len := xs.length) (cap := cap) (vlo := none) (vhi := some (.int kk n)) (a := 0) (b := n) (.inl ⟨rfl, rfl⟩) (.inr ⟨kk, rfl⟩) (Int.le_refl _) h0 h1 hcap
  simp only [Instr.sliceAt, f5Y, run_underlying hu, f5V, Instr.slice, hr, a06 hty, f5Z]
  simp
 have hexec : ∀ {v : Value} {w' : World}, (Instr.sliceAt T (a.eval x) none (some (a.eval hi)) none).run P w = .ok v w' → (execOp a.eval o).run P w = .ok (.value v) w' := by
  intro v w' hr
  simp only [execOp, ho, Option.map_none, f6b, f5Y, hr, f5V, f5Z]
 have fin : ∀ {v : Value} {env' : Env}, (Instr.sliceAt T (a.eval x) none (some (a.eval hi)) none).run P w = .ok v w → Rel P N n0 B M0 w0 F e0 env' (a0L (kb + d) (.row el true nl (xs.take n.toNat)) { st with mem := del st.mem key }) a w → v = (env' (kb + d)).hdr → o.wp P a w (a1d P N n0 B M0 w0 F e0 k r) Q := by
  intro v env' h1 h2 h3
  refine a0X (hexec h1) ?_
  rw [hdst]
  exact ⟨env', _, h2.put (fun _ hdd => by cases hdd; exact hd) (a0w.of (x := .c (.o (kb + d))) h3), hk⟩
 obtain ⟨_, ⟨rfl, rfl, hnil⟩ | ⟨rfl, hb0, cap, cur, q1, q2, q3, q4, q5, q6⟩⟩ := h.ob _ _ hg
 ·have hn : n = 0 := by simp at h1; omega
  subst hn
  have hr := hrun none 0 (by simp)
  refine fin (v := .slice none 0 0) (env' := upd env (kb + d) ⟨0, 0, none⟩) ?_ (by simpa using a5z h hsub (kb + d) hF hsl) (by simp [upd, a3R.hdr])
  rw [hxv, hnil, hhv]
  simpa using hr
 ·have hr := hrun (some ⟨(env key).blk, 0, none⟩) cap q3
  have hsame : (if cap = 0 then some (⟨(env key).blk, 0, none⟩ : Addr) else (some (⟨(env key).blk, 0, none⟩ : Addr)).map (·.add 0)) = some ⟨(env key).blk, 0, none⟩ := by
   split
   ·rfl
   ·simp [Addr.add_lit]
  rw [hsame] at hr
  have hnx : n.toNat ≤ xs.length := by omega
  have htl : (xs.take n.toNat).length = n.toNat := by rw [List.length_take]; omega
  refine fin (v := .slice (some ⟨(env key).blk, 0, none⟩) n.toNat cap) (env' := upd env (kb + d) ⟨(env key).blk, 0, some (n.toNat, cap)⟩) (by rw [hxv, q1, hhv]; exact hr) ?_ (by simp [upd, a3R.hdr])
  refine Rel.new h hsub (kb + d) hF _ _ (fun _ _ => False) (Chg.refl _ w) (fun _ _ hf => hf.elim) (fun _ _ _ _ _ => rfl) ?_ ?_ ?_ ?_
  ·intro hk'
   refine ⟨hsl, .inr ⟨rfl, rfl, cap, cur, by simp [a3R.hdr, htl], q2, by rw [htl]; omega, q4, q5, ?_⟩⟩
   intro i j k' hi' hk2
   rw [htl] at hi'
   obtain ⟨u, hu1, hu2⟩ := q6 i j k' (by omega) hk2
   refine ⟨u, hu1, ?_⟩
   rw [f51, List.getElem?_take, if_pos hi', ← f51]
   exact hu2.mono hk'
  ·intro b x' hm
   obtain ⟨_, rfl, _⟩ := hm
   exact .inr ⟨key, _, hg, rfl, rfl, .inl rfl⟩
  ·intro _ k' ob hne hk' hr'
   obtain ⟨hk1, hk2⟩ := a0S k' ob hk'
   exact h.ds k' key ob _ hk2 hg hr' rfl hk1
  ·intro e' ex' xs' he x' hx'
   simp only [Obj.row.injEq] at he
   obtain ⟨rfl, _, _, rfl⟩ := he
   rw [htl] at hx'
   exact h.pr key el true xs hg x' (Nat.lt_of_lt_of_le hx' (Nat.mul_le_mul_right _ hnx))
theorem c1V {R : Type} {d : Nat} {T kt vt : TypeId} {k : St → Option R} {r : R} {o : Oper} {Q : Exit → Act → World → Prop} (h : Rel P N n0 B M0 w0 F e0 env st a w) (hd : d < N) (hF : ¬ F (kb + d)) (ho : o.op = .makeMap T none) (hdst : o.dst = some d)
  (hk : k ((a0L (kb + d) (.map kt vt []) st).put (some d) (.c (.m (kb + d)))) = some r) : o.wp P a w (a1d P N n0 B M0 w0 F e0 k r) Q := by
 refine a0X (v := .map (some w.heap.size)) (w' := push w (.map #[] 0)) ?_ ?_
 ·simp [execOp, ho, Instr.makeMap, push]
 ·have hrel := Rel.newBlock h (mem0 := st.mem) (fun _ _ hg => hg) (kb + d) hF (.map kt vt []) none (.map #[] 0) (w' := push w (.map #[] 0)) (a6y _ w _) rfl fun S' _ => ⟨#[], 0, a9O, trivial⟩
  rw [hdst]
  refine ⟨_, _, hrel.put (fun _ hdd => by cases hdd; exact hd) ?_, hk⟩
  simp [a0w, a0G, a0x, upd]
theorem b4n {blk : Nat} {ob ob' : Go.Obj} (hg : w.heap[blk]? = some ob) (hne : ∀ c T f, ob ≠ .cells c T f) : (setObj blk ob').run P w = .ok () { w with heap := w.heap.setIfInBounds blk ob' } := by
 unfold setObj
 cases ob <;> first | exact absurd rfl (hne _ _ _) | simp only [Sem.run, hg]
theorem b5T (old new : Value) (w : World) : ∃ key w', (Instr.keyThatStays old new).run P w = .ok key w' ∧ (key = new ∨ key = old) ∧ w'.heap = w.heap ∧ w'.os = w.os ∧ w'.tape = w.tape ∧ w'.output = w.output := by
 unfold Instr.keyThatStays
 cases Instr.sameBits 10000 old new with
 | true => exact ⟨new, w, by simp, .inl rfl, rfl, rfl, rfl, rfl⟩
 | false =>
  simp only [Bool.false_eq_true, if_false, f5Y, run_choose]
  simp only [Question.forced, Bool.false_eq_true, if_false, f5V, f5Z]
  refine ⟨_, { w with drawn := w.drawn + 1 }, rfl, ?_, rfl, rfl, rfl, rfl⟩
  split
  ·exact .inl rfl
  ·exact .inr rfl
theorem c0p {blk : Nat} {ob ob' : Go.Obj} {w' : World} (hg : w.heap[blk]? = some ob) (hne : ∀ c T f, ob ≠ .cells c T f) (hh : w'.heap = w.heap.setIfInBounds blk ob') (h1 : w'.os = w.os) (h2 : w'.tape = w.tape) (h3 : w'.output = w.output) : Chg (fun b _ => b = blk) w w' := by
 refine ⟨h1, h2, h3, by rw [hh]; simp, ?_, ?_⟩
 ·intro b cur T fr hb
  have hbb : b ≠ blk := by rintro rfl; rw [hg] at hb; simp only [f5S] at hb; exact hne _ _ _ hb
  refine ⟨cur, fr, ?_, rfl, fun _ _ => rfl, .inl rfl⟩
  rw [hh, Array.getElem?_setIfInBounds, if_neg (Ne.symm hbb)]
  exact hb
 ·intro b o hb hno
  have hbb : blk ≠ b := fun e => hno 0 e.symm
  rw [hh, Array.getElem?_setIfInBounds, if_neg hbb]
  exact hb
theorem a8W {R : Type} {T kt vt vt' : TypeId} {mo ko xo : Operand} {mk : Nat} {es es' : List (D × D)} {kd vd : D} {b : Bool} {k : St → Option R} {r : R} {o : Oper} {Q : Exit → Act → World → Prop} (h : Rel P N n0 B M0 w0 F e0 env st a w) (hd : ∀ d, o.dst = some d → d < N)
  (hexec : execOp a.eval o = (do Instr.mapUpdate T (a.eval mo) (a.eval ko) (a.eval xo); pure .skip))
  (hm : evu st mo = .c (.m mk)) (hu : P.underlying T = some (.map kt vt')) (hg : get st.mem mk = some (.map kt vt es)) (hkd : asD P st.mem kt (evu st ko) = some kd) (hvd : asD P st.mem vt (evu st xo) = some vd) (hself : eqD P kt kd kd = some b) (hput : e5t P kt kd vd es = some es')
  (hk : k (St.put { st with mem := set st.mem mk (.map kt vt es') } o.dst (.c .u)) = some r) : o.wp P a w (a1d P N n0 B M0 w0 F e0 k r) Q := by
 have hmv : a.eval mo = .map (some (env mk).blk) := by have := h.evu mo; rw [hm] at this; exact this
 obtain ⟨ents, clock, hh, hents⟩ := h.ob _ _ hg
 obtain ⟨p, hp, hpl, hpr⟩ := c9J hput
 have hkv := a2s h.ob h.rows (h.evu ko) hkd
 have hvv := a2s h.ob h.rows (h.evu xo) hvd
 have hf := a5J hkv ⟨b, hself⟩ (hents.mono fun _ _ _ h => h.1) hp
 have hck := a1Q (w := w) false 12 kt _ _ _ (a.eval ko) hself (a4p hkv hself) 10000 (by decide)
 have hget : (getObj (env mk).blk).run P w = .ok (.map ents clock) w := by unfold getObj; simp only [Sem.run, hh]
 have hnc : ∀ c T f, (Go.Obj.map ents clock) ≠ .cells c T f := fun _ _ _ e => by cases e
 have fin : ∀ (ents' : Array MapEntry) (clock' : Nat) (w' : World), (Instr.mapUpdate T (a.eval mo) (a.eval ko) (a.eval xo)).run P w = .ok () w' → w'.heap = w.heap.setIfInBounds (env mk).blk (.map ents' clock') → w'.os = w.os → w'.tape = w.tape → w'.output = w.output →
   (∀ S', a0O w (Sof P B M0 n0 env st.mem w) w' S' → a0B (d4y P env S' w' kt vt) es' ents'.toList) → o.wp P a w (a1d P N n0 B M0 w0 F e0 k r) Q := by
  intro ents' clock' w' hrun h1 h2 h3 h4 h5
  refine c1U (w' := w') ?_ ⟨env, _, Rel.put_u (Rel.upd h hg (o' := .map kt vt es') (fun b _ => b = (env mk).blk) (c0p hh hnc h1 h2 h3 h4) (fun _ _ e => e) (fun _ _ e => e) (fun hr => hr) ?_ trivial ?_ ?_) hd undef, hk⟩
  ·rw [hexec]
   simp only [f5Y, hrun, f5V, f5Z]
  ·intro b hb
   rw [h1, Array.getElem?_setIfInBounds, if_neg (Ne.symm hb)]
  ·intro S' hk'
   refine ⟨ents', clock', ?_, h5 S' hk'⟩
   rw [h1, Array.getElem?_setIfInBounds, if_pos rfl, if_pos (f53.1 hh).1]
  ·intro e ex xs he; cases he
 have keepE : ∀ {w' : World} {S' : a0Q}, a0O w (Sof P B M0 n0 env st.mem w) w' S' → a0B (d4y P env S' w' kt vt) es ents.toList := fun hk' =>
  hents.mono fun x y _ hxy => let ⟨kd, q1, q2⟩ := hxy.1; ⟨⟨kd, a09 hk' q1, q2⟩, a09 hk' hxy.2⟩
 cases p with
 | none =>
  simp only at hpr
  subst hpr
  refine fin (ents.push { key := a.eval ko, val := a.eval xo, born := clock }) (clock + 1) { w with heap := w.heap.setIfInBounds (env mk).blk (.map (ents.push { key := a.eval ko, val := a.eval xo, born := clock }) (clock + 1)) } ?_ rfl rfl rfl rfl ?_
  ·simp only [Instr.mapUpdate, f5Y, run_underlying hu, f5V, hmv, hget, hck, hf, a1R, Option.map_none]
   exact b4n hh hnc
  ·intro S' hk'
   rw [Array.toList_push]
   exact (keepE hk').append ⟨⟨⟨kd, a09 hk' hkv, fun _ => rfl⟩, a09 hk' hvv⟩, trivial⟩
 | some i =>
  simp only at hpr
  subst hpr
  have hi := hpl i rfl
  obtain ⟨en, hen, hk1, hv1⟩ := hents.get (f58 hi)
  obtain ⟨kd', hkd', hke⟩ := hk1
  have hil : i < ents.size := by have := hents.length; simp at this; omega
  obtain ⟨key, w1, hr1, hkey, e1, e2, e3, e4⟩ := b5T (P := P) (((ents[i]?).map (·.key)).getD (a.eval ko)) (a.eval ko) w
  have hen' : ents[i]? = some en := by simpa using hen
  refine fin (ents.modify i fun e => { e with key, val := a.eval xo }) clock { w1 with heap := w1.heap.setIfInBounds (env mk).blk (.map (ents.modify i fun e => { e with key, val := a.eval xo }) clock) } ?_ (by rw [e1]) e2 e3 e4 ?_
  ·simp only [Instr.mapUpdate, f5Y, run_underlying hu, f5V, hmv, hget, hck, hf, a1R, f6b, Nat.zero_add, hr1]
   exact b4n (by rw [e1]; exact hh) hnc
  ·intro S' hk'
   have hmod : (ents.modify i fun e => { e with key, val := a.eval xo }).toList = ents.toList.set i { en with key, val := a.eval xo } := by
    apply List.ext_getElem?
    intro j
    rw [Array.getElem?_toList, Array.getElem?_modify, List.getElem?_set]
    by_cases hij : i = j
    ·subst hij
     rw [if_pos rfl, if_pos rfl, if_pos (by simpa using hil), hen']
     rfl
    ·rw [if_neg hij, if_neg hij]; simp
   rw [hmod]
   refine (keepE hk').set i ⟨?_, a09 hk' hvv⟩
   rcases hkey with rfl | rfl
   ·exact ⟨kd, a09 hk' hkv, fun _ => rfl⟩
   ·refine ⟨kd', ?_, fun q => ?_⟩
    ·have : ((ents[i]?).map (·.key)).getD (a.eval ko) = en.key := by rw [hen']; rfl
     exact (fun (v : Value) (hv : v = en.key) => by subst hv; exact a09 hk' hkd' : ∀ v, v = en.key → a0G P env S' _ (a2i P kt kd') v) _ this
    have h7 := d4N hp (f58 hi)
    have h8 := c1O 12 kt _ _ (a0Z P kt q) h7
    exact h8.trans (hke q)
theorem c9T {T : TypeId} (h : e3T P T = true) : a0j P T = true := by
 unfold e3T at h
 simp only [f5U] at h
 exact h.1.1
theorem c4T {R : Type} {d : Nat} {T : TypeId} {z : D} {k : St → Option R} {r : R} {o : Oper} {Q : Exit → Act → World → Prop} (h : Rel P N n0 B M0 w0 F e0 env st a w) (hd : d < N) (hF : ¬ F (kb + d)) (ho : o.op = .alloc T) (hdst : o.dst = some d)
  (hb : e3T P T = true) (hz : a5g P T = some z) (hk : k ((a0L (kb + d) (.dat T z) st).put (some d) (.c (.p (kb + d) 0))) = some r) : o.wp P a w (a1d P N n0 B M0 w0 F e0 k r) Q := by
 obtain ⟨v, h1, _, h2, h3⟩ := a2t hz
 refine a0X (v := .pointer (some ⟨w.heap.size, 0, none⟩)) (w' := push w (.cells v.cells T)) ?_ ?_
 ·simp only [execOp, ho, f5Y, Instr.alloc, h1, f5V, a9P, f5Z]
 ·have hnb := Rel.newBlock h (mem0 := st.mem) (fun _ _ hg => hg) (kb + d) hF (.dat T z) none (.cells v.cells T) (a6y _ w _) rfl fun S' hkeep => by
   refine ⟨rfl, v.cells, T, a9O, by omega, fun j k hk => ?_⟩
   obtain ⟨u, q1, q2⟩ := h3 (push w (.cells v.cells T)) S' j k hk
   unfold elD at q2
   rw [c9T hb] at q2
   exact ⟨u, q1, q2⟩
  rw [hdst]
  refine ⟨_, _, hnb.put (v := .pointer (some ⟨w.heap.size, 0, none⟩)) (fun _ hdd => by cases hdd; exact hd) ?_, hk⟩
  simp [a0w, a0G, a0x, upd]
theorem d2u {R : Type} {d : Nat} {T : TypeId} {x : Operand} {z : D} {k : St → Option R} {r : R} {o : Oper} {Q : Exit → Act → World → Prop} (h : Rel P N n0 B M0 w0 F e0 env st a w) (hd : d < N) (hF : ¬ F (kb + d)) (ho : o.op = .box T x) (hdst : o.dst = some d)
  (hb : e3T P T = true) (hz : asD P st.mem T (e9l P T (evu st x)) = some z) (hk : k ((a0L (kb + d) (.dat T z) st).put (some d) (.c (.p (kb + d) 0))) = some r) : o.wp P a w (a1d P N n0 B M0 w0 F e0 k r) Q := by
 obtain ⟨h1, h2⟩ := a7f h.ob h.rows (c0m (h.evu x)) hz
 refine a0X (v := .pointer (some ⟨w.heap.size, 0, none⟩)) (w' := push w (.cells (a.eval x).cells T)) ?_ ?_
 ·simp only [execOp, ho, f5Y, Instr.box, f5V, a9P, f5Z]
 ·have hnb := Rel.newBlock h (mem0 := st.mem) (fun _ _ hg => hg) (kb + d) hF (.dat T z) none (.cells (a.eval x).cells T) (a6y _ w _) rfl fun S' hkeep => by
   refine ⟨rfl, (a.eval x).cells, T, a9O, by omega, fun j k hk => ?_⟩
   obtain ⟨u, q1, q2⟩ := h2 j k hk
   unfold elD at q2
   rw [c9T hb] at q2
   exact ⟨u, by simpa using q1, q2.mono hkeep⟩
  rw [hdst]
  refine ⟨_, _, hnb.put (v := .pointer (some ⟨w.heap.size, 0, none⟩)) (fun _ hdd => by cases hdd; exact hd) ?_, hk⟩
  simp [a0w, a0G, a0x, upd]
theorem c1W {R : Type} {d : Nat} {s t el : TypeId} {x : Operand} {l : List UInt8} {k : St → Option R} {r : R} {o : Oper} {Q : Exit → Act → World → Prop} (h : Rel P N n0 B M0 w0 F e0 env st a w) (hd : d < N) (hF : ¬ F (kb + d)) (ho : o.op = .convert s t x) (hdst : o.dst = some d)
  (hs : P.underlying s = some .string) (hel : a0t P t = some el) (hx : evu st x = .c (.s l)) (h8 : b9z P el = true) (hl : l.length ≤ a0U)
  (hk : k ((a0L (kb + d) (.row el true false (a1G l)) st).put (some d) (.c (.o (kb + d)))) = some r) : o.wp P a w (a1d P N n0 B M0 w0 F e0 k r) Q := by
 obtain ⟨hu, hsz, hty, hpos⟩ := a0o hel
 obtain ⟨hkk, ha⟩ := a9L h8
 have hxv : a.eval x = .string ⟨l.toArray⟩ := by have := h.evu x; rw [hx] at this; exact this
 have hrun := run_bytes_of_string (P := P) w s t el ⟨l.toArray⟩ hs hu (b79 h8)
 have hsize : (⟨l.toArray⟩ : ByteArray).size = l.length := by simp [ByteArray.size]
 rw [hsize] at hrun
 have hcap := grownCap_ge w l.length 0 el
 have hcm := grownCap_le_maxLen w l.length 0 el (by unfold a0U at hl; unfold maxLen; omega)
 refine a0X (v := .slice (some ⟨w.heap.size, 0, none⟩) l.length (grownCap w l.length 0 el)) (w' := w.drew.alloc (.cells (bytesRow ⟨l.toArray⟩ (grownCap w l.length 0 el)) el ((bytesRow ⟨l.toArray⟩ (grownCap w l.length 0 el)).size, (bytesRow ⟨l.toArray⟩ (grownCap w l.length 0 el)).size + 1))) ?_ ?_
 ·have hex : execOp a.eval o = (do pure (.value (← convert s t (a.eval x))) : Sem Next) := by unfold execOp; rw [ho]
  rw [hex, hxv, f5Y, hrun]
  rfl
 ·have hbl : (a1G l).length = l.length := by simp [a1G]
  have hrs : (bytesRow ⟨l.toArray⟩ (grownCap w l.length 0 el)).size = grownCap w l.length 0 el * a0d P el := by
   rw [hsz, hkk]
   simp [bytesRow, hsize]
   omega
  have hrel := c7t h (mem0 := st.mem) (fun _ _ hg => hg) (kb + d) hF (ex := true) (e := el) (xs := a1G l) (cap := grownCap w l.length 0 el) (cur := bytesRow ⟨l.toArray⟩ (grownCap w l.length 0 el)) (fr := ((bytesRow ⟨l.toArray⟩ (grownCap w l.length 0 el)).size, (bytesRow ⟨l.toArray⟩ (grownCap w l.length 0 el)).size + 1)) (a2k w _) rfl (.inr (Nat.le_refl _)) hsz (by rw [hbl]; exact hcap) hcm hrs (by
   intro i j kk hi hj
   rw [hkk] at hj
   have hj0 : j = 0 ∧ kk = .int .u8 := by
    cases j with
    | zero => simp at hj; exact ⟨rfl, hj.symm⟩
    | succ j => simp at hj
   obtain ⟨rfl, rfl⟩ := hj0
   rw [hbl] at hi
   have hs1 : a0d P el = 1 := by rw [hsz, hkk]; rfl
   refine ⟨.int .u8 ((l[i]).toNat : Int), ?_, ?_⟩
   ·rw [hs1, Nat.mul_one, Nat.add_zero]
    unfold bytesRow
    rw [Array.getElem?_append_left (by simpa using hi)]
    simp [hi]
   ·unfold elD
    rw [ha]
    have : (a1G l).getD i (.i 0) = .i ((l[i]).toNat : Int) := by
     rw [f51]
     simp [a1G, e0o, hi]
    rw [this]
    exact .int .u8 (.i ((l[i]).toNat : Int)))
  rw [hdst]
  refine ⟨_, _, hrel.put (fun _ hdd => by cases hdd; exact hd) ?_, hk⟩
  simp [a0w, a0G, a0x, upd, a3R.hdr, hbl]
theorem e0C {t el : TypeId} {blk n c : Nat} {cur : Array Value} {fr : Nat × Nat} (hg : w.heap[blk]? = some (.cells cur el fr)) (ht : P.underlying t = some (.slice el)) (he : P.underlying el = some (.int .u8)) :
  (convert t t (.slice (some ⟨blk, 0, none⟩) n c)).run P w = .ok (.slice (some ⟨blk, 0, none⟩) n c) (w.freeze ⟨blk, cur.size, none⟩ 1) := by
 have hsh : w.shape? blk = some (el, cur.size) := by unfold World.shape?; rw [hg]
 simp [convert, run_underlying ht, run_underlying he, markStringish, hsh]
theorem c4U {blk n : Nat} {cur : Array Value} {T : TypeId} {fr : Nat × Nat} (hg : w.heap[blk]? = some (.cells cur T fr)) : (w.freeze ⟨blk, n, none⟩ 1).heap[blk]? = some (.cells cur T (if fr.1 == fr.2 then (n, n + 1) else (min fr.1 n, max fr.2 (n + 1)))) := by
 unfold World.freeze
 rw [if_neg (by decide)]
 simp only [Array.getElem?_modify, if_true, hg, f6b]
theorem a8X {blk n b : Nat} (hb : b ≠ blk) : (w.freeze ⟨blk, n, none⟩ 1).heap[b]? = w.heap[b]? := by
 unfold World.freeze
 rw [if_neg (by decide)]
 simp only [Array.getElem?_modify]
 rw [if_neg (Ne.symm hb)]
theorem d2v {blk n : Nat} {cur : Array Value} {T : TypeId} {fr : Nat × Nat} (hg : w.heap[blk]? = some (.cells cur T fr)) : Chg (fun b _ => b = blk) w (w.freeze ⟨blk, n, none⟩ 1) := by
 refine ⟨by unfold World.freeze; rw [if_neg (by decide)], by unfold World.freeze; rw [if_neg (by decide)], by unfold World.freeze; rw [if_neg (by decide)], by unfold World.freeze; rw [if_neg (by decide)]; simp, ?_, ?_⟩
 ·intro b c T' fr' hb
  by_cases hbb : b = blk
  ·subst hbb
   rw [hg] at hb
   simp only [f5S, Go.Obj.cells.injEq] at hb
   obtain ⟨rfl, rfl, rfl⟩ := hb
   exact ⟨cur, _, c4U hg, rfl, fun _ _ => rfl, .inr fun _ => rfl⟩
  ·exact ⟨c, fr', by rw [a8X hbb]; exact hb, rfl, fun _ _ => rfl, .inl rfl⟩
 ·intro b ob hb hno
  rw [a8X (hno 0)]; exact hb
theorem Rel.same_mem {mem' : AL Obj} (h : Rel P N n0 B M0 w0 F e0 env st a w) (hg : ∀ k, get st.mem k = get mem' k) : Rel P N n0 B M0 w0 F e0 env { st with mem := mem' } a w := by
 have e : get st.mem = get mem' := funext hg
 have hS : Sof P B M0 n0 env st.mem w = Sof P B M0 n0 env mem' w := by unfold Sof; rw [e]
 exact ⟨h.size, h.dfr, h.hn0, fun t x hx => by rw [← hS]; exact h.tm t x hx, fun k o ho => by rw [← hS]; exact h.ob k o (by rw [e]; exact ho),
  fun k k' o o' h1 h2 => h.ds k k' o o' (by rw [e]; exact h1) (by rw [e]; exact h2), fun k o b x h1 => h.mu k o b x (by rw [e]; exact h1), fun k e' ex xs h1 => h.pr k e' ex xs (by rw [e]; exact h1), h.ch, h.bb, h.fx, h.gi⟩
theorem d2w {R : Type} {d : Nat} {s t el key : Nat} {x : Operand} {xs : List D} {k : St → Option R} {r : R} {o : Oper} {Q : Exit → Act → World → Prop} (h : Rel P N n0 B M0 w0 F e0 env st a w) (hd : d < N) (ho : o.op = .convert s t x) (hdst : o.dst = some d)
  (hst : s = t) (hel : a0t P t = some el) (hx : evu st x = .c (.o key)) (hg : get st.mem key = some (.row el true false xs)) (h8 : b9z P el = true)
  (hk : k (st.put (some d) (.c (.o key))) = some r) : o.wp P a w (a1d P N n0 B M0 w0 F e0 k r) Q := by
 subst hst
 obtain ⟨hu, hsz, hty, hpos⟩ := a0o hel
 have hxv : a.eval x = (env key).hdr := by have := h.evu x; rw [hx] at this; exact this
 obtain ⟨hsl, ⟨hn, _⟩ | ⟨_, hbase, cap, cur, q1, ⟨fr, hfr, q2⟩, q3, q4, q5, q6⟩⟩ := h.ob _ _ hg
 ·cases hn
 have hrun := e0C (P := P) (w := w) (n := xs.length) (c := cap) q2 hu (b79 h8)
 have hup : Rel P N n0 B M0 w0 F e0 env { st with mem := set st.mem key (.row el true false xs) } a (w.freeze ⟨(env key).blk, cur.size, none⟩ 1) := by
  refine Rel.upd h hg (fun b _ => b = (env key).blk) (d2v q2) (fun b x e => ⟨rfl, e, .inl rfl⟩) (fun _ _ hm => hm) (fun hr => hr) (fun b hb => a8X hb) rfl ?_ ?_
  ·intro S' hk'
   refine ⟨hsl, .inr ⟨rfl, hbase, cap, cur, q1, ⟨_, ?_, c4U q2⟩, q3, q4, q5, ?_⟩⟩
   ·rcases hfr with rfl | hle
    ·simp only [BEq.rfl, if_true]; exact .inr (Nat.le_refl _)
    ·split
     ·exact .inr (Nat.le_refl _)
     ·right; simp only; omega
   ·intro i j k' hi' hk2
    obtain ⟨u, hu1, hu2⟩ := q6 i j k' hi' hk2
    exact ⟨u, hu1, hu2.mono hk'⟩
  ·intro e' ex' xs' he x' hx'
   simp only [Obj.row.injEq] at he
   obtain ⟨rfl, rfl, _, rfl⟩ := he
   exact h.pr key _ _ _ hg x' hx'
 have hsame : Rel P N n0 B M0 w0 F e0 env st a (w.freeze ⟨(env key).blk, cur.size, none⟩ 1) := by
  refine Rel.same_mem (st := { st with mem := set st.mem key (.row el true false xs) }) (mem' := st.mem) hup fun k0 => ?_
  show get (set st.mem key (.row el true false xs)) k0 = get st.mem k0
  rw [a2q]
  by_cases hkk : k0 = key
  ·subst hkk; rw [if_pos rfl, hg]
  ·rw [if_neg hkk]
 refine a0X (v := (env key).hdr) (w' := w.freeze ⟨(env key).blk, cur.size, none⟩ 1) ?_ ?_
 ·have hex : execOp a.eval o = (do pure (.value (← convert s s (a.eval x))) : Sem Next) := by unfold execOp; rw [ho]
  rw [hex, hxv, q1, f5Y, hrun]
  rfl
 ·rw [hdst]
  refine ⟨env, _, hsame.put (fun _ hdd => by cases hdd; exact hd) (a0w.of (x := .c (.o key)) rfl), hk⟩
theorem c1X (h : Rel P N n0 B M0 w0 F e0 env st a w) {el T : TypeId} {x : V} {vx : Value} {ys : List D} (hx : a0G P env (Sof P B M0 n0 env st.mem w) w x vx) (hs : c1H P st.mem el T x = some ys) (h1 : a0d P el = 1) (hk1 : a0d P el = (kinds P el).length) :
  ∃ news : List Value, news.length = ys.length ∧ (Builtin.lenOf vx).run P w = .ok ys.length w ∧ (∀ u ∈ news, u.oneCell' = true) ∧ (∀ n, n ≤ ys.length → (Builtin.firstCells 1 n vx).run P w = .ok (news.take n).toArray w) ∧
   ∀ (i : Nat) (k : CK), i < ys.length → (kinds P el)[0]? = some k → ∃ u, news[i]? = some u ∧ a2e P w (Sof P B M0 n0 env st.mem w) k (elD P el (ys.getD i (.i 0)) 0) u := by
 unfold c1H at hs
 split at hs
 ·rename_i l hu
  cases h8 : b9z P el with
  | false => rw [h8] at hs; cases hs
  | true =>
   rw [h8] at hs
   simp only [cond_true, f5S] at hs
   subst hs
   have hv : vx = .string ⟨l.toArray⟩ := hx
   subst hv
   obtain ⟨hkk, ha⟩ := a9L h8
   refine ⟨l.map fun b => .int .u8 (b.toNat : Int), by simp [a1G], by simp [Builtin.lenOf, a1G, ByteArray.size], ?_, ?_, ?_⟩
   ·intro u hu
    simp only [List.mem_map] at hu
    obtain ⟨b, _, rfl⟩ := hu
    rfl
   ·intro n hn
    have : ((⟨l.toArray⟩ : ByteArray).extract 0 n).data = (l.take n).toArray := by
     simp
    simp [Builtin.firstCells, this, List.map_take]
   ·intro i k hi hk
    rw [hkk] at hk
    simp only [List.getElem?_cons_zero, f5S] at hk
    subst hk
    have hi' : i < l.length := by simpa [a1G] using hi
    refine ⟨.int .u8 ((l[i]).toNat : Int), by simp [hi'], ?_⟩
    unfold elD
    rw [ha]
    have : (a1G l).getD i (.i 0) = .i ((l[i]).toNat : Int) := by
     rw [f51]
     simp [a1G, e0o, hi']
    rw [this]
    exact .int .u8 (.i ((l[i]).toNat : Int))
 ·rename_i el' hu
  cases he : Nat.beq el el' with
  | false => rw [he] at hs; cases hs
  | true =>
   rw [he] at hs
   simp only [cond_true] at hs
   obtain ⟨ao, c, rfl, rfl⟩ | ⟨b, o, c, rfl, hc⟩ := (c0n h hx hs).src
   ·refine ⟨[], rfl, by simp [Builtin.lenOf], fun _ hu => by simp at hu, fun n hn => ?_, fun i k hi => by simp at hi⟩
    have : n = 0 := by simpa using hn
    subst this
    cases ao <;> simp [Builtin.firstCells, loadCells, loadCellsFrom]
   ·obtain ⟨news, q1, q2, q3, q4⟩ := b6j hk1 (by omega) hc
    rw [h1, Nat.mul_one] at q1
    refine ⟨news, q1, by simp [Builtin.lenOf], q3, fun n hn => ?_, fun i k hi hk => ?_⟩
    ·exact run_firstCells_some (P := P) w 1 n ⟨b, o, none⟩ ys.length c (news.take n) (by simp; omega) fun j v hv => q2 j v (by
      rw [List.getElem?_take] at hv
      split at hv
      ·exact hv
      ·cases hv)
    ·obtain ⟨u, q5, q6⟩ := q4 i 0 k hi hk
     rw [h1, Nat.mul_one, Nat.add_zero] at q5
     exact ⟨u, q5, q6⟩
 ·cases hs
theorem d2x {R : Type} {c : Call} {x y : Operand} {T T' el : TypeId} {key : Nat} {xs ys : List D} {k : St → Option R} {r : R} {o : Oper} {Q : Exit → Act → World → Prop}
  (h : Rel P N n0 B M0 w0 F e0 env st a w) (hd : ∀ d, o.dst = some d → d < N) (ho : o.op = .call c) (hc : c.callee = .builtin .copy) (ha : c.args.toList = [x, y]) (ht : c.argTypes.toList = [T, T'])
  (hel : a0t P T = some el) (hx : evu st x = .c (.o key)) (hg : get st.mem key = some (.row el true false xs)) (hy : c1H P st.mem el T' (evu st y) = some ys) (h1 : a0d P el = 1)
  (hk : k (St.put { st with mem := set st.mem key (.row el true false (ys.take xs.length ++ xs.drop ys.length)) } o.dst (.c (.i .i64 (min2 ys.length xs.length)))) = some r) : o.wp P a w (a1d P N n0 B M0 w0 F e0 k r) Q := by
 obtain ⟨hu, hsl, hty, hpos⟩ := a0o hel
 have ha' : c.args = #[x, y] := by rw [← Array.toList_inj]; exact ha
 have ht' : c.argTypes = #[T, T'] := by rw [← Array.toList_inj]; exact ht
 obtain ⟨news, n1, n2, n3, n4, n5⟩ := c1X h (h.evu y) hy h1 hsl
 have hxv : a.eval x = (env key).hdr := by have := h.evu x; rw [hx] at this; exact this
 obtain ⟨_, ⟨hn, _⟩ | ⟨_, hb, cap, cur, q1, ⟨fr, hfr, q2⟩, q3, q4, q5, q6⟩⟩ := h.ob _ _ hg
 ·cases hn
 rw [h1, Nat.mul_one] at q5
 have hfit : (news.take (min ys.length xs.length)).length ≤ cur.size := by rw [List.length_take]; omega
 have hst := a1q P (env key).blk 0 el fr (news.take (min ys.length xs.length)) 0 cur w q2 hfr (by simpa using hfit) fun u hu => n3 u (List.mem_of_mem_take hu)
 simp only [Nat.add_zero, Nat.zero_add, List.take_zero, List.nil_append] at hst
 have hty1 : (sizeOf el).run P w = .ok 1 w := by rw [a06 hty, h1]
 have hrun : (Builtin.copy_ #[T, T'] o.type #[a.eval x, a.eval y]).run P w = .ok (goInt ((min ys.length xs.length : Nat) : Int)) (w.setRow (env key).blk (news.take (min ys.length xs.length) ++ cur.toList.drop (news.take (min ys.length xs.length)).length).toArray) := by
  rw [hxv, q1]
  have n4' := n4 (min ys.length xs.length) (by omega)
  simp only [Builtin.copy_, List.getElem?_toArray, List.getElem?_cons_zero, List.getElem?_cons_succ, f5Y, run_underlying hu, f5V, n2, hty1]
  rw [show Nat.min ys.length xs.length = min ys.length xs.length from rfl, n4']
  simp only [f5V, f5Y, hst, f5Z]
 have hmin : goInt ((min ys.length xs.length : Nat) : Int) = .int .i64 (min2 (ys.length : Int) (xs.length : Int)) := by
  unfold goInt min2
  congr 1
  split <;> omega
 rw [hmin] at hrun
 refine a0X (v := .int .i64 (min2 (ys.length : Int) (xs.length : Int))) (w' := w.setRow (env key).blk (news.take (min ys.length xs.length) ++ cur.toList.drop (news.take (min ys.length xs.length)).length).toArray) ?_ ?_
 ·simp only [execOp, ho, resolve, hc, ha', ht', f5Y, f5Z, f5V, invoke, builtin, List.map_toArray, List.map_cons, List.map_nil, hrun]
 ·have hlen : (ys.take xs.length ++ xs.drop ys.length).length = xs.length := by simp; omega
  have hseg : ∀ j : Nat, ((news.take (min ys.length xs.length) ++ cur.toList.drop (news.take (min ys.length xs.length)).length).toArray)[j]? = if j < min ys.length xs.length then news[j]? else cur[j]? := by
   intro j
   have hl : (news.take (min ys.length xs.length)).length = min ys.length xs.length := by rw [List.length_take]; omega
   rw [List.getElem?_toArray]
   by_cases hj : j < min ys.length xs.length
   ·rw [if_pos hj, List.getElem?_append_left (by omega), List.getElem?_take, if_pos hj]
   ·rw [if_neg hj, List.getElem?_append_right (by omega), List.getElem?_drop, hl]
    simp only [Array.getElem?_toList]
    congr 1
    omega
  have hupd := Rel.upd h hg (o' := .row el true false (ys.take xs.length ++ xs.drop ys.length)) (w' := w.setRow (env key).blk (news.take (min ys.length xs.length) ++ cur.toList.drop (news.take (min ys.length xs.length)).length).toArray) (fun b i => b = (env key).blk ∧ i < min ys.length xs.length) ?_ ?_ ?_ (fun hr => hr) ?_ rfl ?_ ?_
  ·refine ⟨env, _, hupd.put hd (a0w.of (x := .c (.i .i64 (min2 (ys.length : Int) (xs.length : Int)))) rfl), hk⟩
  ·refine a5y q2 (by simp at hfit ⊢; omega) fun i hi => ?_
   rw [hseg, if_neg (fun hc => hi ⟨rfl, hc⟩)]
  ·rintro b i ⟨rfl, _⟩; exact ⟨rfl, rfl, .inl rfl⟩
  ·rintro b i ⟨_, h7, _⟩; exact ⟨rfl, h7, .inl rfl⟩
  ·intro b hb'; exact setRow_other _ _ _ _ hb'
  ·intro S' hkp
   refine ⟨hsl, .inr ⟨rfl, hb, cap, _, by rw [hlen]; exact q1, b17 hfr q2 (by simp at hfit ⊢; omega), by rw [hlen]; exact q3, q4, by rw [h1, Nat.mul_one, ← q5]; simp at hfit ⊢; omega, ?_⟩⟩
   ·intro i j kk hi hkk
    rw [hlen] at hi
    have hj : j = 0 := by have := (f55.1 hkk).1; omega
    subst hj
    rw [h1, Nat.mul_one, Nat.add_zero, hseg]
    by_cases hlt : i < min ys.length xs.length
    ·rw [if_pos hlt]
     obtain ⟨u, r1, r2⟩ := n5 i kk (by omega) hkk
     have hgd : (ys.take xs.length ++ xs.drop ys.length).getD i (.i 0) = ys.getD i (.i 0) := by
      rw [f51, List.getElem?_append_left (by simp; omega), List.getElem?_take, if_pos (by omega), f51]
     exact ⟨u, r1, by rw [hgd]; exact r2.mono hkp⟩
    ·rw [if_neg hlt]
     obtain ⟨u, r1, r2⟩ := q6 i 0 kk hi hkk
     rw [h1, Nat.mul_one, Nat.add_zero] at r1
     have hgd : (ys.take xs.length ++ xs.drop ys.length).getD i (.i 0) = xs.getD i (.i 0) := by
      rw [f51, List.getElem?_append_right (by simp; omega), List.getElem?_drop, f51]
      congr 2
      simp
      omega
     exact ⟨u, r1, by rw [hgd]; exact r2.mono hkp⟩
  ·intro e' ex xs' he i hi
   simp only [Obj.row.injEq] at he
   obtain ⟨rfl, rfl, _, rfl⟩ := he
   exact h.pr key _ _ xs hg i (by rw [hlen] at hi; exact hi)
theorem c4V {S : a0Q} {kt : TypeId} {es : List (D × C)} {L : List MapEntry} (h : a0B (f4v P env S w kt) es L) : a0B (c9K P env S w kt) (es.map fun x => (x.1, D.i 0)) L :=
 h.mapl fun _ _ _ hx => hx.1
theorem c1Y {kt : TypeId} {kd : D} : ∀ {es : List (D × C)} {p : Option C}, e3Y P kt kd es = some p → ∃ q, c4v P kt kd (es.map fun x => (x.1, D.i 0)) = some q ∧
  (match q with | none => p = none | some i => ∃ k' c, es[i]? = some (k', c) ∧ p = some c)
 | [], p, h => by simp only [e3Y, f5S] at h; subst h; exact ⟨none, rfl, rfl⟩
 | (k', c) :: r, p, h => by
  simp only [e3Y] at h
  split at h
  ·rename_i e p' he hr
   simp only [f5S] at h
   subst h
   obtain ⟨q, h1, h2⟩ := c1Y hr
   refine ⟨bif e then some 0 else q.map (· + 1), by simp only [List.map_cons, c4v, he, h1], ?_⟩
   cases e with
   | true => exact ⟨k', c, rfl, rfl⟩
   | false =>
    cases q with
    | none => exact h2
    | some i => obtain ⟨k2, c2, h3, h4⟩ := h2; exact ⟨k2, c2, by simpa using h3, h4⟩
  ·cases h
theorem b49 {R : Type} {T kt vt vt' : TypeId} {mo ko xo : Operand} {mk : Nat} {ob : Obj} {es : List (D × C)} {kd : D} {c : C} {b : Bool} {k : St → Option R} {r : R} {o : Oper} {Q : Exit → Act → World → Prop} (h : Rel P N n0 B M0 w0 F e0 env st a w) (hd : ∀ d, o.dst = some d → d < N)
  (hexec : execOp a.eval o = (do Instr.mapUpdate T (a.eval mo) (a.eval ko) (a.eval xo); pure .skip))
  (hm : evu st mo = .c (.m mk)) (hu : P.underlying T = some (.map kt vt')) (hg : get st.mem mk = some ob) (hob : (∃ vt1, ob = .tab kt vt1 es) ∨ (es = [] ∧ ∃ vt1, ob = .map kt vt1 []))
  (hkd : asD P st.mem kt (evu st ko) = some kd) (hc : a0G P env (Sof P B M0 n0 env st.mem w) w (.c c) (a.eval xo)) (hself : eqD P kt kd kd = some b) (hput : e3Y P kt kd es = some none)
  (hk : k (St.put { st with mem := set st.mem mk (.tab kt vt (es ++ [(kd, c)])) } o.dst (.c .u)) = some r) : o.wp P a w (a1d P N n0 B M0 w0 F e0 k r) Q := by
 have hmv : a.eval mo = .map (some (env mk).blk) := by have := h.evu mo; rw [hm] at this; exact this
 have hmut : ∀ b' x, a47 P (env mk) (.tab kt vt (es ++ [(kd, c)])) b' x → a47 P (env mk) ob b' x := by
  intro b' x hx
  rcases hob with ⟨vt1, rfl⟩ | ⟨_, vt1, rfl⟩ <;> exact hx
 have hreal : a08 ob := by rcases hob with ⟨vt1, rfl⟩ | ⟨_, vt1, rfl⟩ <;> trivial
 have hents : ∃ ents clock, w.heap[(env mk).blk]? = some (.map ents clock) ∧ a0B (f4v P env (Sof P B M0 n0 env st.mem w) w kt) es ents.toList := by
  have := h.ob _ _ hg
  rcases hob with ⟨vt1, rfl⟩ | ⟨rfl, vt1, rfl⟩
  ·exact this
  ·obtain ⟨ents, clock, h1, h2⟩ := this
   refine ⟨ents, clock, h1, ?_⟩
   have : ents.toList = [] := by have := h2.length; simpa using this.symm
   rw [this]
   trivial
 obtain ⟨ents, clock, hh, hents⟩ := hents
 obtain ⟨q, hq, hq2⟩ := c1Y hput
 have hqn : q = none := by
  cases q with
  | none => rfl
  | some i => obtain ⟨_, _, _, h4⟩ := hq2; cases h4
 subst hqn
 have hkv := a2s h.ob h.rows (h.evu ko) hkd
 have hf := a5J hkv ⟨b, hself⟩ (c4V hents) hq
 have hck := a1Q (w := w) false 12 kt _ _ _ (a.eval ko) hself (a4p hkv hself) 10000 (by decide)
 have hget : (getObj (env mk).blk).run P w = .ok (.map ents clock) w := by unfold getObj; simp only [Sem.run, hh]
 have hnc : ∀ c T f, (Go.Obj.map ents clock) ≠ .cells c T f := fun _ _ _ e => by cases e
 let w' : World := { w with heap := w.heap.setIfInBounds (env mk).blk (.map (ents.push { key := a.eval ko, val := a.eval xo, born := clock }) (clock + 1)) }
 have hrun : (Instr.mapUpdate T (a.eval mo) (a.eval ko) (a.eval xo)).run P w = .ok () w' := by
  simp only [Instr.mapUpdate, f5Y, run_underlying hu, f5V, hmv, hget, hck, hf, a1R, Option.map_none]
  exact b4n hh hnc
 refine c1U (w' := w') ?_ ⟨env, _, Rel.put_u (Rel.upd h hg (o' := .tab kt vt (es ++ [(kd, c)])) (fun b _ => b = (env mk).blk) (c0p (w' := w') hh hnc rfl rfl rfl rfl) (fun b' x e => ?_) hmut (fun _ => hreal) ?_ hreal ?_ ?_) hd undef, hk⟩
 ·rw [hexec]
  simp only [f5Y, hrun, f5V, f5Z]
 ·rcases hob with ⟨vt1, rfl⟩ | ⟨_, vt1, rfl⟩ <;> exact e
 ·intro b hb
  show (w.heap.setIfInBounds _ _)[b]? = _
  rw [Array.getElem?_setIfInBounds, if_neg (Ne.symm hb)]
 ·intro S' hk'
  refine ⟨ents.push { key := a.eval ko, val := a.eval xo, born := clock }, clock + 1, ?_, ?_⟩
  ·show (w.heap.setIfInBounds _ _)[_]? = _
   rw [Array.getElem?_setIfInBounds, if_pos rfl, if_pos (f53.1 hh).1]
  ·rw [Array.toList_push]
   refine (hents.mono fun x y _ hxy => ?_).append ⟨⟨⟨kd, a09 hk' hkv, fun _ => rfl⟩, ?_⟩, trivial⟩
   ·obtain ⟨kd, q1, q2⟩ := hxy.1
    exact ⟨⟨kd, a09 hk' q1, q2⟩, a0x.mono hk' (fun _ _ => rfl) hxy.2⟩
   ·exact a0x.mono hk' (fun _ _ => rfl) (show a0x P env _ w c (a.eval xo) from hc)
 ·intro e ex xs he; cases he
theorem b19 {S : a0Q} {mem : AL Obj} (hob : ∀ key o, get mem key = some o → a0R P env S w (env key) o) (hst : a1p P env S mem) {T kt vt : TypeId} {key : Nat} {es : List (D × C)} {x k z : V} {vx vk : Value} {kd : D} {b : Bool} {p : Option C} (hx : a0G P env S w x vx) (hk : a0G P env S w k vk)
  (hm : x = .c (.m key)) (hu : P.underlying T = some (.map kt vt)) (hg : get mem key = some (.tab kt vt es)) (hkd : asD P mem kt k = some kd) (hz : a6W P vt = some z) (hb' : eqD P kt kd kd = some b) (hp : e3Y P kt kd es = some p) :
  ∃ v, (Instr.lookup T vx vk true).run P w = .ok v w ∧ a0G P env S w (.t [match p with | some c => .c c | none => z, .c (.k p.isSome)]) v := by
 obtain ⟨ents, clock, hh, hents⟩ := hob _ _ hg
 obtain ⟨q, hq, hq2⟩ := c1Y hp
 have hkv := a2s hob hst hk hkd
 have hself : ∃ b, eqD P kt kd kd = some b := ⟨b, hb'⟩
 have hf := a5J hkv hself (c4V hents) hq
 have hck := a1Q (w := w) ents.isEmpty 12 kt _ _ _ vk hb' (a4p hkv hb') 10000 (by decide)
 obtain ⟨zv, hzr, hzrel⟩ := a3X (env := env) (S := S) (w := w) hz
 subst hm
 have hvx : vx = .map (some (env key).blk) := hx
 subst hvx
 have hget : (getObj (env key).blk).run P w = .ok (.map ents clock) w := by
  unfold getObj; simp only [Sem.run, hh]
 simp only [Instr.lookup, f5Y, run_underlying hu, f5V, hget, f5Z, hck, hf]
 cases q with
 | none =>
  subst hq2
  simp only [a1R, Option.map_none, f5Y, hzr, f5V, f5Z]
  exact ⟨_, rfl, #[zv, .bool false], rfl, c4K hz hzrel, rfl, trivial⟩
 | some i =>
  obtain ⟨k', c, h3, rfl⟩ := hq2
  obtain ⟨en, hen, henr⟩ := hents.get h3
  have hval : ((ents.toList.getD i default).val) = en.val := by rw [f51, hen]; rfl
  simp only [a1R, f6b, hval]
  exact ⟨_, rfl, #[en.val, .bool true], rfl, henr.2, rfl, trivial⟩
theorem b9D {R : Type} {d : Nat} {T : TypeId} {x hi : Operand} {key n : Nat} {kk : IntKind} {j : Int} {k : St → Option R} {r : R} {o : Oper} {Q : Exit → Act → World → Prop}
  (h : Rel P N n0 B M0 w0 F e0 env st a w) (hd : d < N) (ho : o.op = .slice T x none (some hi) none) (hdst : o.dst = some d)
  (hx : evu st x = .c (.bs key n) ∨ evu st x = .c (.bx key n)) (hhi : evu st hi = .c (.i kk j)) (hT : (a0t P T).isSome = true) (h0 : 0 ≤ j) (h1 : j ≤ n) (hml : n ≤ maxLen)
  (hk : k (st.put (some d) (.c (.bx key j.toNat))) = some r) : o.wp P a w (a1d P N n0 B M0 w0 F e0 k r) Q := by
 have hhv : a.eval hi = .int kk j := by have := h.evu hi; rw [hhi] at this; exact this
 obtain ⟨cap, hc1, hc2, hxv⟩ : ∃ cap, n ≤ cap ∧ cap ≤ maxLen ∧ a.eval x = .slice (some ⟨(env key).blk, (env key).base, none⟩) n cap := by
  have := h.evu x
  rcases hx with hx | hx
  ·rw [hx] at this; exact ⟨n, Nat.le_refl _, hml, this⟩
  ·rw [hx] at this; exact this
 obtain ⟨el, hel⟩ := Option.isSome_iff_exists.1 hT
 obtain ⟨hu, hsl, hty, hpos⟩ := a0o hel
 have hrun : (Instr.sliceAt T (a.eval x) none (some (a.eval hi)) none).run P w = .ok (.slice (some ⟨(env key).blk, (env key).base, none⟩) j.toNat cap) w := by
  rw [hxv, hhv]
  have hr := a9K (P := P) (w := w) (isS := true) (len := n) (cap := cap) (vlo := none) (vhi := some (.int kk j)) (a := 0) (b := j) (.inl ⟨rfl, rfl⟩) (.inr ⟨kk, rfl⟩) (Int.le_refl _) h0 h1 hc1
  simp only [Instr.sliceAt, f5Y, run_underlying hu, f5V, Instr.slice, hr, a06 hty, f5Z]
  simp [Addr.add_lit]
 refine a0X (v := .slice (some ⟨(env key).blk, (env key).base, none⟩) j.toNat cap) (w' := w) ?_ ?_
 ·simp only [execOp, ho, Option.map_none, f6b, f5Y, hrun, f5V, f5Z]
 ·rw [hdst]
  exact ⟨_, _, h.put (fun _ hdd => by cases hdd; exact hd) (a0w.of (x := .c (.bx key j.toNat)) ⟨cap, by omega, hc2, rfl⟩), hk⟩
theorem d4X {S : a0Q} {key n : Nat} {cs : List C} (h : a0R P env S w (env key) (.box cs)) (hn : n ≤ cs.length) : ∃ olds : List Value, olds.length = n ∧ (∀ j v, olds[j]? = some v → w.cell? ⟨(env key).blk, (env key).base + j, none⟩ = some v) ∧ a0B (a0x P env S w) (cs.take n) olds := by
 obtain ⟨cur, T, h1, h2, h3, _⟩ := h
 refine ⟨(cur.toList.drop (env key).base).take n, ?_, ?_, ?_⟩
 ·simp; omega
 ·intro j v hv
  rw [List.getElem?_take] at hv
  split at hv
  ·rw [List.getElem?_drop] at hv
   exact a2r h1 (by simpa using hv)
  ·cases hv
 ·have := h3.take n
  rwa [List.take_take, Nat.min_eq_left hn] at this
theorem b8g {R : Type} {d : Nat} {c : Call} {s x : Operand} {T T' : TypeId} {k1 k2 n m : Nat} {c1 c2 : List C} {k : St → Option R} {r : R} {o : Oper} {Q : Exit → Act → World → Prop} {el : TypeId}
  (h : Rel P N n0 B M0 w0 F e0 env st a w) (hd : d < N) (hF : ¬ F (kb + d)) (ho : o.op = .call c) (hdst : o.dst = some d) (hc : c.callee = .builtin .append) (ha : c.args.toList = [s, x]) (ht : c.argTypes.toList = [T, T']) (hT : T = T')
  (hel : a0t P T = some el) (hz : (a5g P el).isSome = true) (h1 : evu st s = .c (.bs k1 n)) (h2 : evu st x = .c (.bs k2 m)) (g1 : get st.mem k1 = some (.box c1)) (g2 : get st.mem k2 = some (.box c2)) (hs1 : a0d P el = 1) (hn : 0 < n) (hm : 0 < m)
  (l1 : n ≤ c1.length) (l2 : m ≤ c2.length) (hroom : a2z P el (n + m) = true) (hpl : a3w (c1.take n ++ c2.take m) = true)
  (hk : k ((a0L (kb + d) (.box ((c1.take n ++ c2.take m).map (inval (kb + d)))) st).put (some d) (.c (.bx (kb + d) (n + m)))) = some r) : o.wp P a w (a1d P N n0 B M0 w0 F e0 k r) Q := by
 subst hT
 have ha' : c.args = #[s, x] := by rw [← Array.toList_inj]; exact ha
 have ht' : c.argTypes = #[T, T] := by rw [← Array.toList_inj]; exact ht
 have hexec : ∀ {v : Value} {w' : World}, (Builtin.append_ #[T, T] o.type #[a.eval s, a.eval x]).run P w = .ok v w' → (execOp a.eval o).run P w = .ok (.value v) w' := by
  intro v w' hr
  simp only [execOp, ho, resolve, hc, ha', ht', f5Y, f5Z, f5V, invoke, builtin, List.map_toArray, List.map_cons, List.map_nil, hr]
 obtain ⟨z, hz'⟩ := Option.isSome_iff_exists.1 hz
 obtain ⟨zv, _, ⟨i, hi, hiz⟩, hzs, _⟩ := a2t hz'
 obtain ⟨hu, hsl, hty, hpos⟩ := a0o hel
 have hsz : i.size = 1 := by rw [← hs1]; simp [a0d, hi]
 have hby : i.bytes = a2T P el := by simp [a2T, hi]
 have hsv : a.eval s = .slice (some ⟨(env k1).blk, (env k1).base, none⟩) n n := by have := h.evu s; rw [h1] at this; exact this
 have hxv : a.eval x = .slice (some ⟨(env k2).blk, (env k2).base, none⟩) m m := by have := h.evu x; rw [h2] at this; exact this
 obtain ⟨olds, q1, q2, q3⟩ := d4X (h.ob _ _ g1) l1
 obtain ⟨news, p1, p2, p3⟩ := d4X (h.ob _ _ g2) l2
 simp only [a2z, f5U, decide_eq_true_eq] at hroom
 obtain ⟨hr1, hr2⟩ := hroom
 have hrun := run_append_grow (P := P) w T o.type el i zv hu hi hiz ⟨(env k1).blk, (env k1).base, none⟩ n n olds (by rw [q1, hsz, Nat.mul_one]) (fun j v hv => by rw [Addr.add_lit]; exact q2 j v hv)
  ⟨(env k2).blk, (env k2).base, none⟩ m m news (by rw [p1, hsz, Nat.mul_one]) (fun j v hv => by rw [Addr.add_lit]; exact p2 j v hv) (by omega) (by unfold a0U at hr2; omega) (growslice_fits (by omega) (by rw [hby]; exact hr1))
 have hcap := grownCap_ge w (n + m) n el
 have hcm := grownCap_le_maxLen w (n + m) n el (by unfold a0U at hr2; unfold maxLen; omega)
 rw [hsv, hxv] at hexec
 refine a0X (hexec hrun) ?_
 have hall := q3.append p3
 have hnb := Rel.newBlock h (mem0 := st.mem) (fun _ _ hg => hg) (kb + d) hF (.box ((c1.take n ++ c2.take m).map (inval (kb + d)))) none (.cells (olds.toArray ++ news.toArray ++ Builtin.zeroCells zv.cells (grownCap w (n + m) n el - (n + m))) el) (a2k w _) rfl fun S' hkeep => by
  have hlen : (c1.take n ++ c2.take m).length = (olds ++ news).length := hall.length
  have hll : (olds ++ news).length = n + m := by simp [q1, p1]
  refine ⟨_, el, by show (w.heap.push _)[w.heap.size]? = _; rw [Array.getElem?_push, if_pos rfl], ?_, ?_, a5i (fun _ => a7d) fun c hc => b4d (a8R hpl c hc)⟩
  ·have e2 : ((c1.take n ++ c2.take m).map (inval (kb + d))).length = n + m := by rw [List.length_map, hlen, hll]
   rw [e2]
   simp only [Nat.zero_add, Array.size_append, List.size_toArray, q1, p1]
   omega
  have h1' := hall.mapl (f := inval (kb + d)) (R2 := a0x P (upd env (kb + d) ⟨w.heap.size, 0, none⟩) S' (w.drew.alloc (.cells (olds.toArray ++ news.toArray ++ Builtin.zeroCells zv.cells (grownCap w (n + m) n el - (n + m))) el))) fun c u _ hcu => a0x.inval hkeep (kb + d) (fun k hk => by simp [upd, hk]) hcu
  have e1 : (((olds.toArray ++ news.toArray ++ Builtin.zeroCells zv.cells (grownCap w (n + m) n el - (n + m))).toList.drop 0).take ((c1.take n ++ c2.take m).map (inval (kb + d))).length) = olds ++ news := by
   rw [List.length_map, hlen, List.drop_zero, Array.toList_append, Array.toList_append, List.toList_toArray, List.toList_toArray, List.take_append_of_le_length (Nat.le_refl _), List.take_length]
  rw [e1]
  exact h1'
 rw [hdst]
 refine ⟨_, _, hnb.put (fun _ hdd => by cases hdd; exact hd) ?_, hk⟩
 refine a0w.of (x := .c (.bx (kb + d) (n + m))) ⟨grownCap w (n + m) n el, hcap, hcm, ?_⟩
 simp [upd]
end
end Go.AM

namespace Go.AM
open Go

def Nodup : List Ref → Prop
 | [] => True
 | r :: rs => (∀ x ∈ rs, x.key ≠ r.key) ∧ Nodup rs
theorem b5a {k : Nat} : ∀ {l : List Ref} {i : Nat}, a3S k l i = none → ∀ r ∈ l, r.key ≠ k
 | [], _, _, r, hr => by simp at hr
 | x :: l, i, h, r, hr => by
  simp only [a3S, a0v] at h
  by_cases hx : x.key = k
  ·rw [cond_true (by simpa using hx)] at h; cases h
  ·rw [cond_false (by simpa using hx)] at h
   rcases f59.1 hr with rfl | hr
   ·exact hx
   ·exact b5a h r hr
theorem a2l {k : Nat} : ∀ {l : List Ref} {i0 i : Nat} {r : Ref}, a3S k l i0 = some (i, r) → ∃ j, i = i0 + j ∧ l[j]? = some r ∧ r.key = k
 | [], _, _, _, h => by simp [a3S] at h
 | x :: l, i0, i, r, h => by
  simp only [a3S, a0v] at h
  by_cases hx : x.key = k
  ·rw [cond_true (by simpa using hx)] at h
   simp only [f5S, f6a] at h
   exact ⟨0, by omega, by simp [h.2], h.2 ▸ hx⟩
  ·rw [cond_false (by simpa using hx)] at h
   obtain ⟨j, h1, h2, h3⟩ := a2l h
   exact ⟨j + 1, by omega, by simpa using h2, h3⟩
theorem c0q : ∀ {l : List Ref} {r : Ref}, Nodup l → (∀ x ∈ l, x.key ≠ r.key) → Nodup (l ++ [r])
 | [], r, _, _ => ⟨by simp, trivial⟩
 | y :: l, r, h, hr => by
  refine ⟨fun x hx => ?_, c0q h.2 fun x hx => hr x (by simp [hx])⟩
  rcases List.mem_append.1 hx with hx | hx
  ·exact h.1 x hx
  ·simp only [List.mem_singleton] at hx
   subst hx
   exact (hr y (by simp)).symm
theorem b8h : ∀ {l : List Ref} {i j : Nat} {r s : Ref}, Nodup l → l[i]? = some r → l[j]? = some s → r.key = s.key → i = j
 | [], i, _, _, _, _, hi, _, _ => by simp at hi
 | x :: l, 0, 0, _, _, _, _, _, _ => rfl
 | x :: l, 0, j + 1, r, s, h, hi, hj, e => by
  simp only [List.getElem?_cons_zero, f5S] at hi
  subst hi
  exact absurd e.symm (h.1 s (List.mem_of_getElem? (by simpa using hj)))
 | x :: l, i + 1, 0, r, s, h, hi, hj, e => by
  simp only [List.getElem?_cons_zero, f5S] at hj
  subst hj
  exact absurd e (h.1 r (List.mem_of_getElem? (by simpa using hi)))
 | x :: l, i + 1, j + 1, r, s, h, hi, hj, e => by
  exact congrArg (· + 1) (b8h h.2 (by simpa using hi) (by simpa using hj) e)
theorem d2y (mem : AL Obj) (r : Ref) : (b7I mem r).key = r.key := by
 unfold b7I
 split
 ·rfl
 ·rename_i cs _
  split
  ·rename_i n _
   cases Nat.beq r.off 0 && Nat.beq n cs.length <;> rfl
  ·rfl
 ·rfl
theorem a3Y {mem : AL Obj} : ∀ {n : Nat} {todo acc out : List Ref}, Nodup acc → a6X mem n todo acc = some out → Nodup out
 | 0, _, _, _, _, h => by simp [a6X] at h
 | n + 1, [], acc, out, hn, h => by simp only [a6X, f5S] at h; subst h; exact hn
 | n + 1, r :: rest, acc, out, hn, h => by
  simp only [a6X] at h
  split at h
  ·rename_i i r' _
   cases hb : Nat.beq r.off r'.off && c9x (b7I mem r).size r'.size with
   | false => rw [hb] at h; cases h
   | true => rw [hb] at h; exact a3Y hn h
  ·rename_i hf
   have hsn := c0q (r := b7I mem r) hn fun x hx => by rw [d2y]; exact b5a hf x hx
   split at h
   ·cases h
   ·split at h
    ·exact a3Y hsn h
    ·cases h
   ·exact a3Y hsn h
def e9s : Obj → Prop
 | .map _ _ _ => True
 | .dat _ _ => True
 | _ => False
theorem a7g {mem : AL Obj} {acc : List Ref} : ∀ {l : List Ref} {i0 : Nat} {mem' : AL Obj}, b0S mem acc l i0 = some mem' →
  (∀ i ob, get mem' i = some ob → ∃ j r, i = i0 + j ∧ l[j]? = some r ∧ ∃ o, get mem r.key = some o ∧
   ((∃ cs sub sub', o = .box cs ∧ b1X cs r = some sub ∧ b0G acc sub = some sub' ∧ ob = .box sub') ∨ (∃ e ex nl xs, o = .row e ex nl xs ∧ r.off = 0 ∧ ob = o) ∨ (e9s o ∧ r.off = 0 ∧ ob = o))) ∧
  mem'.length = l.length ∧ (∀ j, j < l.length → (get mem' (i0 + j)).isSome)
 | [], i0, mem', h => by
  simp only [b0S, f5S] at h
  subst h
  exact ⟨fun i ob hg => (by cases hg), rfl, fun j hj => (by simp at hj)⟩
 | r :: rs, i0, mem', h => by
  have step : ∀ (ob : Obj) (rest : AL Obj) (o : Obj), get mem r.key = some o → b0S mem acc rs (i0 + 1) = some rest → mem' = (i0, ob) :: rest →
    ((∃ cs sub sub', o = .box cs ∧ b1X cs r = some sub ∧ b0G acc sub = some sub' ∧ ob = .box sub') ∨ (∃ e ex nl xs, o = .row e ex nl xs ∧ r.off = 0 ∧ ob = o) ∨ (e9s o ∧ r.off = 0 ∧ ob = o)) →
    (∀ i ob, get mem' i = some ob → ∃ j r', i = i0 + j ∧ (r :: rs)[j]? = some r' ∧ ∃ o, get mem r'.key = some o ∧
     ((∃ cs sub sub', o = .box cs ∧ b1X cs r' = some sub ∧ b0G acc sub = some sub' ∧ ob = .box sub') ∨ (∃ e ex nl xs, o = .row e ex nl xs ∧ r'.off = 0 ∧ ob = o) ∨ (e9s o ∧ r'.off = 0 ∧ ob = o))) ∧
    mem'.length = (r :: rs).length ∧ (∀ j, j < (r :: rs).length → (get mem' (i0 + j)).isSome) := by
   intro ob rest o hg hrest he hob
   subst he
   obtain ⟨h1, h2, h3⟩ := a7g hrest
   refine ⟨fun i ob' hi => ?_, by simp [h2], fun j hj => ?_⟩
   ·simp only [get, a0v] at hi
    by_cases hii : i0 = i
    ·rw [cond_true (by simpa using hii)] at hi
     simp only [f5S] at hi
     subst hi
     exact ⟨0, r, by omega, by simp, o, hg, hob⟩
    ·rw [cond_false (by simpa using hii)] at hi
     obtain ⟨j, r', e1, e2, e3⟩ := h1 i ob' hi
     exact ⟨j + 1, r', by omega, by simpa using e2, e3⟩
   ·simp only [get, a0v]
    cases j with
    | zero => simp
    | succ j =>
     rw [cond_false (by simp)]
     have := h3 j (by simp at hj; omega)
     rwa [show i0 + (j + 1) = i0 + 1 + j by omega]
  simp only [b0S] at h
  split at h
  ·rename_i cs rest hg hrest
   split at h
   ·rename_i sub hsub
    split at h
    ·rename_i sub' hsub'
     simp only [f5S] at h
     exact step _ rest _ hg hrest h.symm (.inl ⟨cs, sub, sub', rfl, hsub, hsub', rfl⟩)
    ·cases h
   ·cases h
  ·rename_i e ex nl xs rest hg hrest
   cases ho : Nat.beq r.off 0 with
   | false => rw [ho] at h; cases h
   | true =>
    rw [ho] at h
    simp only [cond_true, f5S] at h
    exact step _ rest _ hg hrest h.symm (.inr (.inl ⟨e, ex, nl, xs, rfl, f5T ho, rfl⟩))
  ·rename_i kt vt es rest hg hrest
   cases ho : Nat.beq r.off 0 with
   | false => rw [ho] at h; cases h
   | true =>
    rw [ho] at h
    simp only [cond_true, f5S] at h
    exact step _ rest _ hg hrest h.symm (.inr (.inr ⟨trivial, f5T ho, rfl⟩))
  ·rename_i T d rest hg hrest
   cases ho : Nat.beq r.off 0 with
   | false => rw [ho] at h; cases h
   | true =>
    rw [ho] at h
    simp only [cond_true, f5S] at h
    exact step _ rest _ hg hrest h.symm (.inr (.inr ⟨trivial, f5T ho, rfl⟩))
  ·cases h
section
variable {P : Program} {env : Env} {S : a0Q} {w : World}
def b5b (acc : List Ref) (env : Env) : Env := fun i => match acc[i]? with
 | some r => ⟨(env r.key).blk, (env r.key).base + r.off, (env r.key).head⟩
 | none => ⟨0, 0, none⟩
theorem a2u {acc : List Ref} {i : Nat} {r : Ref} (h : acc[i]? = some r) : b5b acc env i = ⟨(env r.key).blk, (env r.key).base + r.off, (env r.key).head⟩ := by simp [b5b, h]
theorem c0r {acc : List Ref} {S' : a0Q} (hk : a0O w S w S') {c c' : C} {v : Value} (h : c4u acc c = some c') (hc : a0x P env S w c v) : a0x P (b5b acc env) S' w c' v := by
 cases c with
 | p k o =>
  simp only [c4u] at h
  split at h
  ·rename_i i r hf
   obtain ⟨j, e1, e2, e3⟩ := a2l hf
   cases hb : Nat.ble r.off o with
   | false => rw [hb] at h; cases h
   | true =>
    rw [hb] at h
    simp only [cond_true, f5S] at h
    subst h e1 e3
    have hle := f54 hb
    simp only [a0x, Nat.zero_add, a2u e2] at hc ⊢
    rw [hc]
    congr 3
    omega
  ·cases h
 | o k =>
  simp only [c4u] at h
  split at h
  ·rename_i i r hf
   obtain ⟨j, e1, e2, e3⟩ := a2l hf
   simp only [f5S] at h
   subst h e1 e3
   simp only [a0x, Nat.zero_add, a2u e2] at hc ⊢
   rw [hc]
   rfl
  ·cases h
 | m k =>
  simp only [c4u] at h
  split at h
  ·rename_i i r hf
   obtain ⟨j, e1, e2, e3⟩ := a2l hf
   simp only [f5S] at h
   subst h e1 e3
   simp only [a0x, Nat.zero_add, a2u e2] at hc ⊢
   exact hc
  ·cases h
 | f fn caps =>
  simp only [c4u] at h
  split at h
  ·rename_i cs hcs
   simp only [f5S] at h
   subst h
   simp only [a0x] at hc ⊢
   have hbd : a2h fn cs = a2h fn caps := by
    cases caps with
    | nil => simp only [b39, f5S] at hcs; subst hcs; rfl
    | cons x r =>
     simp only [b39] at hcs
     split at hcs
     ·simp only [f5S] at hcs; subst hcs; rfl
     ·cases hcs
   rw [hc, hbd]
   congr 1
   clear hc hbd
   induction caps generalizing cs with
   | nil => simp only [b39, f5S] at hcs; subst hcs; rfl
   | cons x caps ih =>
    simp only [b39] at hcs
    split at hcs
    ·rename_i y ys hy hys
     simp only [f5S] at hcs
     subst hcs
     simp only [List.map_cons]
     rw [ih ys hys]
     congr 1
     unfold e3V at hy
     split at hy
     ·rename_i i r hx
      obtain ⟨j, e1, e2, e3⟩ := a2l hx
      cases hb : Nat.ble r.off x.2 with
      | false => rw [hb] at hy; cases hy
      | true =>
       have hle := f54 hb
       rw [hb] at hy
       simp only [cond_true, f5S] at hy
       subst hy e1
       simp only [b5M, Nat.zero_add, a2u e2, e3]
       congr 3
       omega
     ·cases hy
    ·cases hcs
  ·cases h
 | bs k n =>
  simp only [c4u] at h
  split at h
  ·rename_i i r hf
   obtain ⟨j, e1, e2, e3⟩ := a2l hf
   cases hb : Nat.beq r.off 0 with
   | false => rw [hb] at h; cases h
   | true =>
    rw [hb] at h
    simp only [cond_true, f5S] at h
    subst h e1 e3
    have h0 := f5T hb
    simp only [a0x, Nat.zero_add, a2u e2] at hc ⊢
    rw [hc, h0]
    rfl
  ·cases h
 | bx k n =>
  simp only [c4u] at h
  split at h
  ·rename_i i r hf
   obtain ⟨j, e1, e2, e3⟩ := a2l hf
   cases hb : Nat.beq r.off 0 with
   | false => rw [hb] at h; cases h
   | true =>
    rw [hb] at h
    simp only [cond_true, f5S] at h
    subst h e1 e3
    have h0 := f5T hb
    simp only [a0x, Nat.zero_add, a2u e2] at hc ⊢
    rw [h0, Nat.add_zero]
    exact hc
  ·cases h
 | ba k T =>
  simp only [c4u] at h
  split at h
  ·rename_i i r hf
   obtain ⟨j, e1, e2, e3⟩ := a2l hf
   cases hb : Nat.beq r.off 0 with
   | false => rw [hb] at h; cases h
   | true =>
    rw [hb] at h
    simp only [cond_true, f5S] at h
    subst h e1 e3
    have h0 := f5T hb
    simp only [a0x, Nat.zero_add, a2u e2] at hc ⊢
    rw [h0, Nat.add_zero]
    exact hc
  ·cases h
 | y => cases h
 | re => simp [c4u] at h
 | pi => simp [c4u] at h
 | el => simp [c4u] at h
 | sl e n xs => simp only [c4u, f5S] at h; subst h; exact a2e.mono hk hc
 | _ => simp only [c4u, f5S] at h; subst h; exact hc
theorem b1q {acc : List Ref} {S' : a0Q} (hk : a0O w S w S') : ∀ {cs cs' : List C} {us : List Value}, b0G acc cs = some cs' → a0B (a0x P env S w) cs us → a0B (a0x P (b5b acc env) S' w) cs' us
 | [], cs', us, h, hr => by cases us with
  | nil => simp only [b0G, f5S] at h; subst h; trivial
  | cons => exact hr.elim
 | c :: cs, cs', us, h, hr => by
  cases us with
  | nil => exact hr.elim
  | cons u us =>
   simp only [b0G] at h
   split at h
   ·rename_i x xs hx hxs
    simp only [f5S] at h
    subst h
    exact ⟨c0r hk hx hr.1, b1q hk hxs hr.2⟩
   ·cases h
theorem d2z {acc : List Ref} {S' : a0Q} (hk : a0O w S w S') {x x' : V} {v : Value} (h : e9j acc x = some x') (hx : a0G P env S w x v) : a0G P (b5b acc env) S' w x' v := by
 cases x with
 | c c =>
  simp only [e9j] at h
  split at h
  ·rename_i y hy
   simp only [f5S] at h
   subst h
   exact c0r hk hy hx
  ·cases h
 | g xs =>
  simp only [e9j] at h
  split at h
  ·rename_i ys hys
   simp only [f5S] at h
   subst h
   obtain ⟨vs, h1, h2⟩ := hx
   exact ⟨vs, h1, b1q hk hys h2⟩
  ·cases h
 | _ => simp [e9j] at h
theorem b1r {acc : List Ref} {S' : a0Q} (hk : a0O w S w S') : ∀ {xs xs' : List V} {vs : List Value}, d2c acc xs = some xs' → a0B (a0G P env S w) xs vs → a0B (a0G P (b5b acc env) S' w) xs' vs
 | [], xs', vs, h, hr => by cases vs with
  | nil => simp only [d2c, f5S] at h; subst h; trivial
  | cons => exact hr.elim
 | c :: cs, cs', us, h, hr => by
  cases us with
  | nil => exact hr.elim
  | cons u us =>
   simp only [d2c] at h
   split at h
   ·rename_i x xs hx hxs
    simp only [f5S] at h
    subst h
    exact ⟨d2z hk hx hr.1, b1r hk hxs hr.2⟩
   ·cases h
theorem a6A {acc : List Ref} : ∀ {cs cs' : List C}, b0G acc cs = some cs' → cs'.length = cs.length
 | [], cs', h => by simp only [b0G, f5S] at h; subst h; rfl
 | c :: cs, cs', h => by
  simp only [b0G] at h
  split at h
  ·rename_i x xs hx hxs
   simp only [f5S] at h
   subst h
   simp [a6A hxs]
  ·cases h
end
end Go.AM

namespace Go.AM
open Go

def a5M (P : Program) (env : Env) (mem : AL Obj) : a0Q := fun b o => ∃ k ob, get mem k = some ob ∧ a47 P (env k) ob b o
structure e9t (P : Program) (n0 : Nat) (B M0 : a0Q) (w0 : World) (F : Nat → Prop) (e0 env : Env) (mem : AL Obj) (w : World) : Prop where
 hn0 : n0 = w0.heap.size
 ob : ∀ key o, get mem key = some o → a0R P env (Sof P B M0 n0 env mem w) w (env key) o
 ds : ∀ k k' o o', get mem k = some o → get mem k' = some o' → a08 o → a08 o' → k ≠ k' → (env k).blk ≠ (env k').blk
 mu : ∀ key o b x, get mem key = some o → a47 P (env key) o b x → M0 b x ∨ n0 ≤ b
 pr : ∀ key e ex xs, get mem key = some (.row e ex false xs) → ∀ o, o < xs.length * a0d P e → B (env key).blk o ∨ n0 ≤ (env key).blk ∨ M0 (env key).blk o
 ch : Chg M0 w0 w
 bb : ∀ b o, B b o → b < n0
 fx : ∀ k, F k → env k = e0 k
 gi : GI P M0 w0
theorem Rel.toM {P : Program} {N n0 : Nat} {F : Nat → Prop} {B M0 : a0Q} {w0 w : World} {e0 : b0H} {env : Env} {st : St} {a : Act} (h : Rel P N n0 B M0 w0 F e0 env st a w) : e9t P n0 B M0 w0 F e0.f env st.mem w :=
 ⟨h.hn0, h.ob, h.ds, h.mu, h.pr, h.ch, h.bb, h.fx, h.gi⟩
structure b4o (P : Program) (B : a0Q) (env : Env) (mem : AL Obj) (w : World) : Prop where
 rel : e9t P w.heap.size B (a5M P env mem) w (· < mem.length) env env mem w
 key : ∀ k o, get mem k = some o → k < mem.length
def a9Q (P : Program) (B : a0Q) (env : Env) (mem : AL Obj) (w : World) (res : Res) (v : Value) (w' : World) : Prop :=
 ∃ env', e9t P w.heap.size B (a5M P env mem) w (· < mem.length) env env' res.2 w' ∧ a0G P env' (Sof P B (a5M P env mem) w.heap.size env' res.2 w') w' (a3T res.1) v
def a1I (P : Program) (f : FuncId) (args : List V) (mem : AL Obj) (res : Res) : Prop :=
 ∀ (B : a0Q) (env : Env) (w : World) (vs : Array Value), b4o P B env mem w → a0B (a0G P env (Sof P B (a5M P env mem) w.heap.size env mem w) w) args vs.toList →
  Calls P f vs w fun e w' => ∃ v, e = .returned v ∧ a9Q P B env mem w res v w'
def a8Y (P : Program) (f : FuncId) : Prop := ∃ fn, P.funcs[f]? = some fn ∧ fn.body.isNone = false ∧ (fn.name == "runtime.NumGoroutine") = false
def a0b (P : Program) (cl : a0f) : Prop := ∀ f args mem alts, cl f args mem = some alts → a8Y P f ∧ ∀ res, a5f alts some = some res → a1I P f args mem res
theorem a7h {α R : Type} {k : α → Option R} : ∀ {alts : List (Bool × α)}, a5f alts k = (a5f alts some).bind k
 | [] => rfl
 | (c, x) :: r => by
  simp only [a5f]
  cases c with
  | true => rfl
  | false => exact a7h
theorem a5N {cs sub : List C} {r : Ref} (h : b1X cs r = some sub) : r.off + sub.length ≤ cs.length ∧ sub = (cs.drop r.off).take sub.length ∧ (∀ n, r.size = some n → sub.length = n) ∧ (r.size = none → r.off = 0 ∧ sub = cs) := by
 unfold b1X at h
 split at h
 ·rename_i hs
  cases hb : Nat.beq r.off 0 with
  | false => rw [hb] at h; cases h
  | true =>
   rw [hb] at h
   simp only [cond_true, f5S] at h
   subst h
   have := f5T hb
   exact ⟨by omega, by rw [this]; simp, fun n hn => (by rw [hs] at hn; cases hn), fun _ => ⟨this, rfl⟩⟩
 ·rename_i n hs
  cases hb : Nat.ble (r.off + n) cs.length with
  | false => rw [hb] at h; cases h
  | true =>
   rw [hb] at h
   simp only [cond_true, f5S] at h
   subst h
   have hle := f54 hb
   have hl : ((cs.drop r.off).take n).length = n := by simp; omega
   exact ⟨by omega, by rw [hl], fun m hm => (by rw [hs] at hm; cases hm; exact hl), fun hn => (by rw [hs] at hn; cases hn)⟩
theorem b9E {α : Type} (l : List α) (base n off m : Nat) (h : off + m ≤ n) : (((l.drop base).take n).drop off).take m = (l.drop (base + off)).take m := by
 rw [List.drop_take, List.take_take, List.drop_drop, Nat.min_eq_left (by omega)]
theorem d4Y {P : Program} {T : TypeId} {n : Nat} {acc : List Ref} {c c' : C} (hr : c4u acc c = some c') (h : a6v P T n c) : a6v P T n c' := by
 cases c with
 | ba k T' =>
  simp only [c4u] at hr
  split at hr
  ·rename_i i r _
   cases hb : Nat.beq r.off 0 with
   | false => rw [hb] at hr; cases hr
   | true => rw [hb] at hr; cases hr; exact h
  ·cases hr
 | _ =>
  simp only [c4u] at hr
  all_goals (try repeat' split at hr)
  all_goals first | (cases hr; trivial) | (cases hr; done) | (rename_i r _; cases hb : Nat.ble r.off _ with | false => (rw [hb] at hr; cases hr) | true => (rw [hb] at hr; cases hr; trivial)) | (rename_i r _; cases hb : Nat.beq r.off 0 with | false => (rw [hb] at hr; cases hr) | true => (rw [hb] at hr; cases hr; trivial))
theorem c0s {P : Program} {T : TypeId} {n : Nat} {acc : List Ref} : ∀ {cs cs' : List C}, b0G acc cs = some cs' → (∀ c ∈ cs, a6v P T n c) → ∀ c ∈ cs', a6v P T n c
 | [], cs', hr, _, c, hc => by cases hr; cases hc
 | x :: xs, cs', hr, h, c, hc => by
  unfold b0G at hr
  split at hr
  ·rename_i y ys h1 h2
   cases hr
   rcases f59.1 hc with rfl | hc
   ·exact d4Y h1 (h x (by simp))
   ·exact c0s h2 (fun c hc => h c (by simp [hc])) c hc
  ·cases hr
section
variable {P : Program} {N n0 kb : Nat} {F : Nat → Prop} {B M0 : a0Q} {w0 : World} {e0 : b0H} {env : Env} {st : St} {a : Act} {w : World}
theorem e0h {acc : List Ref} {mem mem' : AL Obj} (hh : b0S mem acc acc 0 = some mem') {i : Nat} {ob : Obj} {b x : Nat} (hg : get mem' i = some ob) (hm : a47 P (b5b acc env i) ob b x) :
  ∃ r o, acc[i]? = some r ∧ get mem r.key = some o ∧ a47 P (env r.key) o b x := by
 obtain ⟨j, r, e1, e2, o, h1, h2⟩ := (a7g hh).1 i ob hg
 rw [Nat.zero_add] at e1
 subst e1
 refine ⟨r, o, e2, h1, ?_⟩
 rw [a2u e2] at hm
 rcases h2 with ⟨cs, sub, sub', rfl, hs, hs', rfl⟩ | ⟨e, ex, nl, xs, rfl, ho, rfl⟩ | ⟨hmd, ho, rfl⟩
 ·obtain ⟨q1, _⟩ := a5N hs
  have q2 := a6A hs'
  obtain ⟨m1, m2, m3⟩ := hm
  exact ⟨m1, by simp only at m2; omega, by simp only at m3; omega⟩
 ·exact hm
 ·cases ob <;> first | exact hm | exact hmd.elim
theorem c9U (h : Rel P N n0 B M0 w0 F e0 env st a w) {acc : List Ref} (hnd : Nodup acc) {mem' : AL Obj} (hh : b0S st.mem acc acc 0 = some mem') :
  b4o P (Sof P B M0 n0 env st.mem w) (b5b acc env) mem' w ∧
  a0O w (Sof P B M0 n0 env st.mem w) w (Sof P (Sof P B M0 n0 env st.mem w) (a5M P (b5b acc env) mem') w.heap.size (b5b acc env) mem' w) := by
 obtain ⟨g1, g2, g3⟩ := a7g hh
 have hkeep : a0O w (Sof P B M0 n0 env st.mem w) w (Sof P (Sof P B M0 n0 env st.mem w) (a5M P (b5b acc env) mem') w.heap.size (b5b acc env) mem' w) := by
  intro b o v hS hv
  refine ⟨⟨.inl hS, hS.2.1, fun k ob hg hm => ?_⟩, hv⟩
  obtain ⟨r, o', _, h1, h2⟩ := e0h hh hg hm
  exact hS.2.2 r.key o' h1 h2
 have hkey : ∀ k o, get mem' k = some o → k < mem'.length := by
  intro k o hg
  obtain ⟨j, r, e1, e2, _⟩ := g1 k o hg
  have := (f55.1 e2).1
  omega
 refine ⟨⟨⟨rfl, ?_, ?_, ?_, ?_, Chg.refl _ w, fun b o hS => hS.2.1, fun _ _ => rfl, h.gi.step h.ch fun b o ⟨k, ob, hg, hm⟩ => ?_⟩, hkey⟩, hkeep⟩
 ·intro i ob hg
  obtain ⟨j, r, e1, e2, o, h1, h2⟩ := g1 i ob hg
  rw [Nat.zero_add] at e1
  subst e1
  have hob := h.ob _ _ h1
  rw [a2u e2]
  rcases h2 with ⟨cs, sub, sub', rfl, hs, hs', rfl⟩ | ⟨e, ex, nl, xs, rfl, ho, rfl⟩ | ⟨hmd, ho, rfl⟩
  ·obtain ⟨q1, q2, _, _⟩ := a5N hs
   have q3 := a6A hs'
   obtain ⟨cur, T, c1, c2, c3, c4⟩ := hob
   refine ⟨cur, T, c1, by simp only; omega, ?_, c0s hs' fun c hc => c4 c (by rw [q2] at hc; exact List.mem_of_mem_drop (List.mem_of_mem_take hc))⟩
   have hr : a0B (a0x P env (Sof P B M0 n0 env st.mem w) w) sub ((cur.toList.drop ((env r.key).base + r.off)).take sub.length) := by
    have := (c3.drop r.off).take sub.length
    rw [b9E _ _ _ _ _ q1] at this
    rw [q2]
    have hl : ((cs.drop r.off).take sub.length).length = sub.length := by simp; omega
    rw [hl]
    exact this
   rw [q3]
   exact b1q hkeep hs' hr
  ·rw [ho]
   exact a5j (s := ⟨(env r.key).blk, (env r.key).base + 0, (env r.key).head⟩) hkeep (fun _ => rfl) hob ex
  ·cases ob with
   | box => exact hmd.elim
   | row => exact hmd.elim
   | tab => exact hmd.elim
   | map kt vt es => exact a9M (s := ⟨(env r.key).blk, (env r.key).base + r.off, (env r.key).head⟩) hkeep rfl hob
   | dat T d =>
    rw [ho]
    exact a9N (s := ⟨(env r.key).blk, (env r.key).base + 0, (env r.key).head⟩) hkeep rfl hob
 ·intro k k' o o' hg hg' hr hr' hne
  obtain ⟨j, r, e1, e2, ob, h1, h2⟩ := g1 k o hg
  obtain ⟨j', r', e1', e2', ob', h1', h2'⟩ := g1 k' o' hg'
  rw [Nat.zero_add] at e1 e1'
  subst e1 e1'
  rw [a2u e2, a2u e2']
  have real : ∀ {o ob : Obj} {r : Ref}, ((∃ cs sub sub', ob = .box cs ∧ b1X cs r = some sub ∧ b0G acc sub = some sub' ∧ o = .box sub') ∨ (∃ e ex nl xs, ob = .row e ex nl xs ∧ r.off = 0 ∧ o = ob) ∨ (e9s ob ∧ r.off = 0 ∧ o = ob)) → a08 o → a08 ob := by
   rintro o ob r (⟨cs, sub, sub', rfl, _, _, rfl⟩ | ⟨e, ex, nl, xs, rfl, _, rfl⟩ | ⟨hmd, _, rfl⟩) hr
   ·trivial
   ·exact hr
   ·cases o <;> first | trivial | exact hmd.elim
  refine h.ds r.key r'.key ob ob' h1 h1' (real h2 hr) (real h2' hr') fun hk => hne (b8h hnd e2 e2' hk)
 ·intro key o b x hg hm; exact .inl ⟨key, o, hg, hm⟩
 ·intro key e ex xs hg o ho
  obtain ⟨j, r, e1, e2, ob, h1, h2⟩ := g1 key _ hg
  rw [Nat.zero_add] at e1
  subst e1
  rcases h2 with ⟨cs, sub, sub', rfl, hs, hs', hrow⟩ | ⟨e', ex', nl', xs', rfl, hoff, hrow⟩ | ⟨hmd, _, hrow⟩
  ·cases hrow
  ·simp only [Obj.row.injEq] at hrow
   obtain ⟨rfl, rfl, rfl, rfl⟩ := hrow
   rw [a2u e2]
   cases ex with
   | false => exact .inl (h.rows r.key e xs h1 o ho)
   | true => exact .inr (.inr ⟨_, _, hg, rfl, by rw [a2u e2], .inl rfl⟩)
  ·rw [← hrow] at hmd; exact hmd.elim
 ·obtain ⟨r, o', _, h1, h2⟩ := e0h hh hg hm
  rw [← h.hn0]
  exact h.mu _ _ _ _ h1 h2
theorem c4W {M : a0Q} {w w' : World} (h : Chg M w w') {b : Nat} (hb : b < w.heap.size) (hno : ∀ o, ¬ M b o) : w'.heap[b]? = w.heap[b]? := by
 have hs := Array.getElem?_eq_getElem hb
 rw [hs]
 exact h.other b _ hs hno
end
end Go.AM

namespace Go.AM
open Go

def a8Z (ks : List Nat) (c : C) : C := ks.foldl (fun c k => inval k c) c
def c7v (ks : List Nat) (c : V) : V := ks.foldl (fun c k => c9u k c) c
def a3n (ks : List Nat) (c : Obj) : Obj := ks.foldl (fun c k => a6s k c) c
theorem a1J {k : Nat} : ∀ {l : List Nat}, b37 k l = true ↔ k ∈ l
  | [] => by simp [b37]
  | m :: r => by
    simp only [b37, a0v, f59]
    by_cases h : m = k
    · simp [h]
    · rw [cond_false (by simpa using h), a1J]
      exact ⟨.inr, fun h' => h'.resolve_left (Ne.symm h)⟩
theorem a3G {n base key : Nat} : ∀ {l : AL Obj}, key ∈ a1V n base l ↔ ∃ k o, (k, o) ∈ l ∧ n ≤ k ∧ key = base + k
  | [] => by simp [a1V]
  | (k, o) :: r => by
    have ih := a3G (n := n) (base := base) (key := key) (l := r)
    simp only [a1V]
    cases hb : Nat.ble n k with
    | true =>
      have hle := f54 hb
      simp only [cond_true, f59, ih]
      constructor
      · rintro (h | ⟨k', o', h1, h2, h3⟩)
        · exact ⟨k, o, .inl rfl, hle, h⟩
        · exact ⟨k', o', .inr h1, h2, h3⟩
      · rintro ⟨k', o', h1 | h1, h2, h3⟩
        · simp only [f6a] at h1; exact .inl (by rw [h3, h1.1])
        · exact .inr ⟨k', o', h1, h2, h3⟩
    | false =>
      have hlt : ¬ n ≤ k := fun hc => by rw [Nat.ble_eq_true_of_le hc] at hb; cases hb
      simp only [cond_false, ih]
      constructor
      · rintro ⟨k', o', h1, h2, h3⟩; exact ⟨k', o', by simp [h1], h2, h3⟩
      · rintro ⟨k', o', h1, h2, h3⟩
        rcases f59.1 h1 with h1 | h1
        · simp only [f6a] at h1; omega
        · exact ⟨k', o', h1, h2, h3⟩
theorem a5O {α : Type} {k : Nat} {x : α} : ∀ {l : AL α}, get l k = some x → (k, x) ∈ l
  | [], h => by cases h
  | (m, y) :: r, h => by
    simp only [get, a0v] at h
    by_cases hk : m = k
    · rw [cond_true (by simpa using hk)] at h; simp only [f5S] at h; simp [hk, h]
    · rw [cond_false (by simpa using hk)] at h; exact List.mem_cons_of_mem _ (a5O h)
theorem b2a : ∀ (ks : List Nat) (st : St) (t : Nat), get (a2L ks st).tmps t = (get st.tmps t).map (c7v ks)
  | [], st, t => by
    have : c7v [] = id := rfl
    simp [a2L, this]
  | k :: ks, st, t => by
    simp only [a2L, b2a ks, a1x, Option.map_map]
    rfl
theorem a80 : ∀ (ks : List Nat) (st : St) (t : Nat), get (a2L ks st).mem t = if t ∈ ks then none else (get st.mem t).map (a3n ks)
  | [], st, t => by
    have : a3n [] = id := rfl
    simp [a2L, this]
  | k :: ks, st, t => by
    simp only [a2L, a80 ks, b1i, a1x]
    by_cases h : t ∈ ks
    · simp [h]
    · by_cases hk : t = k
      · subst hk; simp
      · simp only [h, hk, if_false, f59, or_self, Option.map_map]; rfl
theorem c0t {acc : List Ref} {base : Nat} {mem : AL Obj} {key : Nat} : ∀ {memR : AL Obj}, get (a8J acc base memR mem) key =
    if key ∈ a1V acc.length base memR then (get memR (key - base)).map (b7J acc base) else get mem key
  | [] => by simp [a8J, a1V]
  | (k, o) :: r => by
    have ih := c0t (acc := acc) (base := base) (mem := mem) (key := key) (memR := r)
    by_cases hle : acc.length ≤ k
    · have hb := Nat.ble_eq_true_of_le hle
      simp only [a8J, a1V, hb, cond_true, a2q]
      by_cases hk : key = base + k
      · subst hk
        simp [get]
      · rw [if_neg hk, ih]
        by_cases hm : key ∈ a1V acc.length base r
        · rw [if_pos hm, if_pos (by simp [hm])]
          obtain ⟨k', o', _, h2, h3⟩ := a3G.1 hm
          simp only [get, a0v]
          rw [cond_false (by simp; omega)]
        · rw [if_neg hm, if_neg (by simp [hk, hm])]
    · have hb : Nat.ble acc.length k = false := by
        cases hb : Nat.ble acc.length k with
        | false => rfl
        | true => exact absurd (f54 hb) hle
      simp only [a8J, a1V, hb, cond_false, ih]
      by_cases hm : key ∈ a1V acc.length base r
      · rw [if_pos hm, if_pos hm]
        obtain ⟨k', o', _, h2, h3⟩ := a3G.1 hm
        simp only [get, a0v]
        rw [cond_false (by simp; omega)]
      · rw [if_neg hm, if_neg hm]
def c4X (acc : List Ref) (base : Nat) (mem : AL Obj) (r : Ref) (o ob : Obj) : Prop :=
  (r.size = none ∧ ob = b7J acc base o) ∨ ∃ n sub cs, r.size = some n ∧ o = .box sub ∧ sub.length = n ∧ get mem r.key = some (.box cs) ∧ ob = .box (a4H cs r.off (sub.map (a6Y acc base)))
theorem b8i {acc : List Ref} {base : Nat} {memR : AL Obj} : ∀ {l : List Ref} {i0 : Nat} {mem mem2 : AL Obj}, Nodup l → a5G acc base memR l i0 mem = some mem2 → ∀ key ob, get mem2 key = some ob →
    (∃ j r o, l[j]? = some r ∧ key = r.key ∧ get memR (i0 + j) = some o ∧ c4X acc base mem r o ob) ∨ ((∀ r ∈ l, r.key ≠ key) ∧ get mem key = some ob)
  | [], i0, mem, mem2, _, h, key, ob, hg => by
    simp only [a5G, f5S] at h
    subst h
    exact .inr ⟨by simp, hg⟩
  | r :: rs, i0, mem, mem2, hn, h, key, ob, hg => by
    have later : ∀ (mem1 : AL Obj), (∀ k, k ≠ r.key → get mem1 k = get mem k) → a5G acc base memR rs (i0 + 1) mem1 = some mem2 →
        (∃ j r' o, (r :: rs)[j]? = some r' ∧ key = r'.key ∧ get memR (i0 + j) = some o ∧ c4X acc base mem r' o ob) ∨ ((∀ r' ∈ rs, r'.key ≠ key) ∧ get mem1 key = some ob) := by
      intro mem1 h1 h2
      rcases b8i hn.2 h2 key ob hg with ⟨j, r', o, e1, e2, e3, e4⟩ | h3
      · refine .inl ⟨j + 1, r', o, by simpa using e1, e2, by rw [show i0 + (j + 1) = i0 + 1 + j by omega]; exact e3, ?_⟩
        rcases e4 with e4 | ⟨n, sub, cs, f1, f2, f3, f4, f5⟩
        · exact .inl e4
        · exact .inr ⟨n, sub, cs, f1, f2, f3, by rw [← h1 r'.key (hn.1 r' (List.mem_of_getElem? e1))]; exact f4, f5⟩
      · exact .inr h3
    simp only [a5G] at h
    split at h
    · rcases later _ (fun k hk => by rw [b1i, if_neg hk]) h with h1 | ⟨h1, h2⟩
      · exact .inl h1
      · rw [b1i] at h2
        by_cases hk : key = r.key
        · rw [if_pos hk] at h2; cases h2
        · rw [if_neg hk] at h2
          exact .inr ⟨fun r' hr' => (by rcases f59.1 hr' with rfl | hr'
                                        · exact Ne.symm hk
                                        · exact h1 r' hr'), h2⟩
    · rename_i o ho
      have put : ∀ (X : Obj), c4X acc base mem r o X → a5G acc base memR rs (i0 + 1) (set mem r.key X) = some mem2 →
          (∃ j r' o, (r :: rs)[j]? = some r' ∧ key = r'.key ∧ get memR (i0 + j) = some o ∧ c4X acc base mem r' o ob) ∨ ((∀ r' ∈ r :: rs, r'.key ≠ key) ∧ get mem key = some ob) := by
        intro X hX hb
        rcases later _ (fun k hk => by rw [a2q, if_neg hk]) hb with h1 | ⟨h1, h2⟩
        · exact .inl h1
        · rw [a2q] at h2
          by_cases hk : key = r.key
          · rw [if_pos hk] at h2
            simp only [f5S] at h2
            subst h2
            exact .inl ⟨0, r, o, by simp, hk, by simpa using ho, hX⟩
          · rw [if_neg hk] at h2
            exact .inr ⟨fun r' hr' => (by rcases f59.1 hr' with rfl | hr'
                                          · exact Ne.symm hk
                                          · exact h1 r' hr'), h2⟩
      split at h
      · rename_i hs
        exact put _ (.inl ⟨hs, rfl⟩) h
      · rename_i n hs
        split at h
        · rename_i sub cs hcs
          cases hb : Nat.beq sub.length n with
          | false => rw [hb] at h; cases h
          | true =>
            rw [hb] at h
            exact put _ (.inr ⟨n, sub, cs, hs, rfl, f5T hb, hcs, rfl⟩) h
        · cases h
theorem b8j {memR : AL Obj} {news : List Nat} : ∀ {l : List Ref} {i0 : Nat}, a8L memR news l i0 = true → ∀ j r o, l[j]? = some r → get memR (i0 + j) = some o → r.key ∉ news
  | [], _, _, j, _, _, hj, _ => by simp at hj
  | x :: l, i0, h, j, r, o, hj, ho => by
    simp only [a8L, f5U] at h
    cases j with
    | zero =>
      simp only [List.getElem?_cons_zero, f5S] at hj
      subst hj
      intro hm
      rw [cond_true (a1J.2 hm)] at h
      have := h.1
      rw [show i0 + 0 = i0 from rfl] at ho
      rw [ho] at this
      cases this
    | succ j => exact b8j h.2 j r o (by simpa using hj) (by rw [show i0 + 1 + j = i0 + (j + 1) by omega]; exact ho)
theorem b1s {mem : AL Obj} : ∀ {ks : List Nat}, b7K mem ks = true → ∀ k ∈ ks, ∃ o, get mem k = some o
  | [], _, k, hk => by simp at hk
  | m :: ks, h, k, hk => by
    simp only [b7K, f5U] at h
    rcases f59.1 hk with rfl | hk
    · exact Option.isSome_iff_exists.1 h.1
    · exact b1s h.2 k hk
theorem b2b {mem : AL Obj} : ∀ {l : AL Obj}, b1Y mem l = true → ∀ k o, (k, o) ∈ l → (∀ x ∈ a1A o, ∃ o', get mem x = some o') ∧ c4x o = true
  | [], _, k, o, h => by simp at h
  | (m, y) :: r, h, k, o, hm => by
    simp only [b1Y, f5U] at h
    rcases f59.1 hm with hm | hm
    · simp only [f6a] at hm
      obtain ⟨rfl, rfl⟩ := hm
      exact ⟨b1s h.1.1, h.1.2⟩
    · exact b2b h.2 k o hm
theorem b1t {P : Program} {s : a3R} {b x : Nat} : ∀ {ks : List Nat} {o : Obj}, a47 P s (a3n ks o) b x ↔ a47 P s o b x
  | [], _ => Iff.rfl
  | k :: ks, o => (b1t (ks := ks) (o := a6s k o)).trans c0k
theorem a2m : ∀ {ks : List Nat} {o : Obj}, a08 (a3n ks o) ↔ a08 o
  | [], _ => Iff.rfl
  | k :: ks, o => (a2m (ks := ks) (o := a6s k o)).trans a4r
theorem b5c {P : Program} {T : TypeId} {n : Nat} : ∀ {ks : List Nat} {c : C}, a6v P T n c → a6v P T n (a8Z ks c)
  | [], _, h => h
  | k :: r, c, h => b5c (ks := r) (a7d h)
theorem b1u : ∀ {ks : List Nat} {cs : List C}, a3n ks (.box cs) = .box (cs.map (a8Z ks))
  | [], cs => by
    have : a8Z [] = id := rfl
    simp [a3n, this]
  | k :: ks, cs => by
    show a3n ks (.box (cs.map (inval k))) = _
    rw [b1u, List.map_map]
    rfl
theorem b1v {e : TypeId} {ex nl : Bool} {xs : List D} : ∀ {ks : List Nat}, a3n ks (.row e ex nl xs) = .row e ex nl xs
  | [] => rfl
  | _ :: ks => b1v (ks := ks)
theorem b1w {kt vt : TypeId} {es : List (D × D)} : ∀ {ks : List Nat}, a3n ks (.map kt vt es) = .map kt vt es
  | [] => rfl
  | _ :: ks => b1w (ks := ks)
theorem b1x {kt vt : TypeId} : ∀ {ks : List Nat} {es : List (D × C)}, a3n ks (.tab kt vt es) = .tab kt vt (es.map fun x => (x.1, a8Z ks x.2))
  | [], es => by
    have : a8Z [] = id := rfl
    simp [a3n, this]
  | k :: ks, es => by
    show a3n ks (.tab kt vt (es.map fun x => (x.1, inval k x.2))) = _
    rw [b1x, List.map_map]
    rfl
theorem b1y {T : TypeId} {d : D} : ∀ {ks : List Nat}, a3n ks (.dat T d) = .dat T d
  | [] => rfl
  | _ :: ks => b1y (ks := ks)
theorem b9F {ks : List Nat} {o : Obj} {cs : List C} (h : a3n ks o = .box cs) : ∃ cs0, o = .box cs0 ∧ cs = cs0.map (a8Z ks) := by
  cases o with
  | box cs0 => rw [b1u] at h; simp only [Obj.box.injEq] at h; exact ⟨cs0, rfl, h.symm⟩
  | row => rw [b1v] at h; cases h
  | map => rw [b1w] at h; cases h
  | tab => rw [b1x] at h; cases h
  | dat => rw [b1y] at h; cases h
theorem a0O.refl (w : World) (S : a0Q) : a0O w S w S := fun _ _ _ a b => ⟨a, b⟩
section
variable {P : Program} {S S' : a0Q} {w w' : World}
theorem a0x.invals {env' : Env} (hk : a0O w S w' S') : ∀ (ks : List Nat) {env : Env}, (∀ k, k ∉ ks → env' k = env k) → ∀ {c : C} {v : Value}, a0x P env S w c v → a0x P env' S' w' (a8Z ks c) v
  | [], env, he, c, v, h => a0x.mono hk (fun k _ => he k (by simp)) h
  | k :: ks, env, he, c, v, h => a0x.invals hk ks (env := fun x => if x = k then env' k else env x) (fun x hx => by
      by_cases hxk : x = k
      · simp [hxk]
      · simp only [hxk, if_false]; exact he x (by simp [hxk, hx])) (a0x.inval (a0O.refl w S) k (fun x hx => if_neg hx) h)
theorem a0w.invals {a : Act} {env' : Env} (hk : a0O w S w' S') : ∀ (ks : List Nat) {env : Env}, (∀ k, k ∉ ks → env' k = env k) → ∀ {c : V} {v : Value}, a0w P env S w a c v → a0w P env' S' w' a (c7v ks c) v
  | [], env, he, c, v, h => a0w.mono hk (fun k => he k (by simp)) h
  | k :: ks, env, he, c, v, h => a0w.invals hk ks (env := fun x => if x = k then env' k else env x) (fun x hx => by
      by_cases hxk : x = k
      · simp [hxk]
      · simp only [hxk, if_false]; exact he x (by simp [hxk, hx])) (a0w.inval (a0O.refl w S) k (fun x hx => if_neg hx) h)
theorem c0u {env' : Env} {s : a3R} (hk : a0O w S w' S') : ∀ (ks : List Nat) {env : Env}, (∀ k, k ∉ ks → env' k = env k) → ∀ {o : Obj}, (a08 o → w'.heap[s.blk]? = w.heap[s.blk]?) → a0R P env S w s o → a0R P env' S' w' s (a3n ks o)
  | [], env, he, o, hh, h => by
    have : env' = env := funext fun k => he k (by simp)
    subst this
    exact a1H hk hh h
  | k :: ks, env, he, o, hh, h => c0u hk ks (env := fun x => if x = k then env' k else env x) (fun x hx => by
      by_cases hxk : x = k
      · simp [hxk]
      · simp only [hxk, if_false]; exact he x (by simp [hxk, hx])) (fun hr => hh (a4r.1 hr)) (c4O (a0O.refl w S) (fun x hx => if_neg hx) (fun _ => rfl) h)

variable {env1 env2 : Env} {acc : List Ref} {base : Nat}
def b2c (env1 env2 : Env) (acc : List Ref) (base k : Nat) : Prop :=
  (env2 (a1z acc base k).1).blk = (env1 k).blk ∧ (env2 (a1z acc base k).1).base + (a1z acc base k).2 = (env1 k).base ∧ (env2 (a1z acc base k).1).head = (env1 k).head
theorem a4s (hk : a0O w S w' S') {c : C} {v : Value} (hb : ∀ k ∈ a2j c, b2c env1 env2 acc base k) (h : a0x P env1 S w c v) : a0x P env2 S' w' (a6Y acc base c) v := by
  cases c with
  | p k o =>
    obtain ⟨h1, h2, h3⟩ := hb k (by simp [a2j])
    simp only [a6Y, a0x] at h ⊢
    rw [h, h1, ← Nat.add_assoc, h2]
  | re k e ix o =>
    obtain ⟨h1, h2, h3⟩ := hb k (by simp [a2j])
    simp only [a6Y, a0x] at h ⊢
    rw [h, h1]
  | pi k b l e ix o =>
    obtain ⟨h1, h2, h3⟩ := hb k (by simp [a2j])
    simp only [a6Y, a0x] at h ⊢
    refine ⟨h.1, h.2.1, ?_⟩
    rw [h.2.2, h1, ← h2]
    congr 3
    omega
  | o k =>
    obtain ⟨h1, h2, h3⟩ := hb k (by simp [a2j])
    simp only [a6Y, a0x, a3R.hdr] at h ⊢
    rw [h, h1, h3]
  | m k =>
    obtain ⟨h1, h2, h3⟩ := hb k (by simp [a2j])
    simp only [a6Y, a0x] at h ⊢
    rw [h, h1]
  | bs k n =>
    obtain ⟨h1, h2, h3⟩ := hb k (by simp [a2j])
    simp only [a6Y]
    cases h0 : Nat.beq (a1z acc base k).2 0 with
    | false => trivial
    | true =>
      simp only [cond_true, a0x] at h ⊢
      have := f5T h0
      rw [h, h1, ← h2, this, Nat.add_zero]
  | bx k n =>
    obtain ⟨h1, h2, h3⟩ := hb k (by simp [a2j])
    simp only [a6Y]
    cases h0 : Nat.beq (a1z acc base k).2 0 with
    | false => trivial
    | true =>
      simp only [cond_true, a0x] at h ⊢
      have := f5T h0
      rw [h1, ← Nat.add_zero (env2 (a1z acc base k).1).base, ← this, h2]
      exact h
  | ba k T =>
    obtain ⟨h1, h2, h3⟩ := hb k (by simp [a2j])
    simp only [a6Y]
    cases h0 : Nat.beq (a1z acc base k).2 0 with
    | false => trivial
    | true =>
      simp only [cond_true, a0x] at h ⊢
      have := f5T h0
      rw [h1, ← Nat.add_zero (env2 (a1z acc base k).1).base, ← this, h2]
      exact h
  | y k => trivial
  | f fn caps =>
    simp only [a6Y, a0x] at h ⊢
    have hbd : ∀ g : Nat × Nat → Nat × Nat, a2h fn (caps.map g) = a2h fn caps := fun g => by cases caps <;> rfl
    rw [h, List.map_map, hbd]
    congr 1
    refine List.map_congr_left fun x hx => ?_
    obtain ⟨h1, h2, h3⟩ := hb x.1 (by simp only [a2j]; exact List.mem_map_of_mem hx)
    simp only [Function.comp, b5M]
    rw [h1, ← Nat.add_assoc, h2]
  | _ => exact a0x.mono hk (by intro k hk'; simp [a6Y, a4I] at hk') h
theorem b8k (hk : a0O w S w' S') {x : V} {v : Value} (hp : b40 x = true) (hb : ∀ k ∈ a8K x, b2c env1 env2 acc base k) (h : a0G P env1 S w x v) : a0G P env2 S' w' (d2d acc base x) v := by
  cases x with
  | c c => exact a4s hk hb h
  | g xs =>
    obtain ⟨vs, h1, h2⟩ := h
    exact ⟨vs, h1, h2.mapl fun c u hc hcu => a4s hk (fun k hkk => hb k (by simp only [a8K, List.mem_flatMap]; exact ⟨c, hc, hkk⟩)) hcu⟩
  | t => cases hp
  | w => cases hp
theorem c4Y (hk : a0O w S w' S') {x : V} {v : Value} (hp : b40 x = true) (hb : ∀ k ∈ a8K x, b2c env1 env2 acc base k) (h : a7c P env1 S w x v) : a7c P env2 S' w' (d2d acc base x) v := by
  cases x with
  | c c => exact a4s hk hb h
  | g xs => exact b8k (x := .g xs) hk hp hb h
  | t => cases hp
  | w => cases hp
theorem c7w (hk : a0O w S w' S') {xs : List V} {v : Value} (hp : xs.all b40 = true) (hb : ∀ k ∈ xs.flatMap a8K, b2c env1 env2 acc base k) (h : a0G P env1 S w (a3T xs) v) : a0G P env2 S' w' (a3T (xs.map (d2d acc base))) v := by
  rw [List.all_eq_true] at hp
  have many : a0G P env1 S w (.t xs) v → a0G P env2 S' w' (.t (xs.map (d2d acc base))) v := by
    rintro ⟨vs, h1, h2⟩
    exact ⟨vs, h1, h2.mapl fun x u hx hxu => c4Y hk (hp x hx) (fun k hkk => hb k (by simp only [List.mem_flatMap]; exact ⟨x, hx, hkk⟩)) hxu⟩
  match xs, h, hp, hb, many with
  | [], h, _, _, many => exact many h
  | [x], h, hp, hb, _ => exact b8k hk (hp x (by simp)) (fun k hkk => hb k (by simpa using hkk)) h
  | x :: y :: r, h, _, _, many => exact many h
theorem c0v {T : TypeId} {n : Nat} {c : C} (h : a6v P T n c) : a6v P T n (a6Y acc base c) := by
  cases c with
  | ba k T' =>
    simp only [a6Y]
    cases Nat.beq (a1z acc base k).2 0 with
    | false => trivial
    | true => exact h
  | bs k m =>
    simp only [a6Y]
    cases Nat.beq (a1z acc base k).2 0 <;> trivial
  | bx k m =>
    simp only [a6Y]
    cases Nat.beq (a1z acc base k).2 0 <;> trivial
  | _ => trivial
theorem b8l (hk : a0O w S w' S') {s : a3R} {o : Obj} (hh : a08 o → w'.heap[s.blk]? = w.heap[s.blk]?) (hb : ∀ k ∈ a1A o, b2c env1 env2 acc base k) (h : a0R P env1 S w s o) : a0R P env2 S' w' s (b7J acc base o) := by
  cases o with
  | box cs =>
    obtain ⟨cur, T, h1, h2, h3, h4⟩ := h
    refine ⟨cur, T, by rw [hh trivial]; exact h1, by simpa using h2, ?_, a5i (fun _ => c0v) h4⟩
    simp only [List.length_map]
    exact h3.mapl fun c u hc hcu => a4s hk (fun k hkk => hb k (by simp only [a1A, List.mem_flatMap]; exact ⟨c, hc, hkk⟩)) hcu
  | row e ex nl xs => exact a5j hk hh h ex
  | map kt vt es => exact a9M hk (hh trivial) h
  | tab kt vt es => exact c7p hk (fun x v hx hxv => a4s hk (fun k hkk => hb k (by obtain ⟨y, hy, rfl⟩ := List.mem_map.1 hx; simp only [a1A, List.mem_flatMap]; exact ⟨y, hy, hkk⟩)) hxv) (hh trivial) h
  | dat T d => exact a9N hk (hh trivial) h
theorem b2d {s : a3R} {b x : Nat} {o : Obj} : a47 P s (b7J acc base o) b x ↔ a47 P s o b x := by cases o <;> simp [b7J, a47]
theorem a9R {o : Obj} : a08 (b7J acc base o) ↔ a08 o := by cases o <;> simp [b7J, a08]
theorem d4Z {s : a3R} {o : Obj} (hr : a08 o) (hf : c4x o = true) : ∃ x, a47 P s o s.blk x := by
  cases o with
  | box cs => cases cs with
    | nil => cases hf
    | cons c cs => exact ⟨s.base, rfl, Nat.le_refl _, by simp⟩
  | row e ex nl xs => exact ⟨_, hr, rfl, .inr (Nat.le_refl _)⟩
  | map kt vt es => exact ⟨0, rfl⟩
  | tab kt vt es => exact ⟨0, rfl⟩
  | dat T d => exact ⟨0, rfl⟩
theorem b5d {env : Env} {s : a3R} {o : Obj} (h : a0R P env S w s o) (hr : a08 o) : s.blk < w.heap.size := by
  cases o with
  | box cs => obtain ⟨_, _, h1, _⟩ := h; exact (f53.1 h1).1
  | row e ex nl xs =>
    obtain ⟨_, ⟨h1, _⟩ | ⟨_, _, _, _, _, h1, _⟩⟩ := h
    · simp only [a08] at hr; rw [hr] at h1; cases h1
    · exact h1.lt
  | map kt vt es => obtain ⟨_, _, h1, _⟩ := h; exact (f53.1 h1).1
  | tab kt vt es => obtain ⟨_, _, h1, _⟩ := h; exact (f53.1 h1).1
  | dat T d => obtain ⟨_, _, _, h1, _⟩ := h; exact (f53.1 h1).1
end
end Go.AM

namespace Go.AM
open Go

section
variable {P : Program} {N n0 kb : Nat} {F : Nat → Prop} {B M0 : a0Q} {w0 : World} {e0 : b0H} {env : Env} {st : St} {a : Act} {w : World}
theorem c4Z (h : Rel P N n0 B M0 w0 F e0 env st a w) {acc : List Ref} (hnd : Nodup acc) {mem' : AL Obj} (hh : b0S st.mem acc acc 0 = some mem') {res : Res} {v : Value} {w' : World}
  (hp : a9Q P (Sof P B M0 n0 env st.mem w) (b5b acc env) mem' w res v w') {base : Nat} {news : List Nat} (hfresh : ∀ k ∈ news, ¬ F k) (hnews : news = a1V acc.length base res.2) (hc : a5H res = true)
  (hnc : a8L res.2 news acc 0 = true) {mem2 : AL Obj} (hm : a5G acc base res.2 acc 0 (a2L news st).mem = some mem2) :
  ∃ env2, Rel P N n0 B M0 w0 F e0 env2 { tmps := (a2L news st).tmps, mem := a8J acc base res.2 mem2 } a w' ∧
   a0G P env2 (Sof P B M0 n0 env2 (a8J acc base res.2 mem2) w') w' (a3T (res.1.map (d2d acc base))) v := by
 obtain ⟨env1, M1, hv⟩ := hp
 simp only [a5H, f5U] at hc
 obtain ⟨⟨hc1, hc2⟩, hc3⟩ := hc
 obtain ⟨g1, g2, g3⟩ := a7g hh
 generalize hmF : a8J acc base res.2 mem2 = memF
 -- the new names
 have henv1 : ∀ (i : Nat) (r : Ref), acc[i]? = some r → env1 i = ⟨(env r.key).blk, (env r.key).base + r.off, (env r.key).head⟩ := by
  intro i r hi
  rw [M1.fx i (by rw [g2]; exact (f55.1 hi).1), a2u hi]
 have hhand : ∀ (i : Nat) (r : Ref), acc[i]? = some r → ∃ ob o, get mem' i = some ob ∧ get st.mem r.key = some o ∧
   ((∃ cs sub sub', o = .box cs ∧ b1X cs r = some sub ∧ b0G acc sub = some sub' ∧ ob = .box sub') ∨ (∃ e ex nl xs, o = .row e ex nl xs ∧ r.off = 0 ∧ ob = o) ∨ (e9s o ∧ r.off = 0 ∧ ob = o)) := by
  intro i r hi
  have hlt := (f55.1 hi).1
  have := g3 i hlt
  rw [Nat.zero_add] at this
  obtain ⟨ob, hob⟩ := Option.isSome_iff_exists.1 this
  obtain ⟨j, r', e1, e2, o, h1, h2⟩ := g1 i ob hob
  rw [Nat.zero_add] at e1
  subst e1
  rw [hi] at e2
  simp only [f5S] at e2
  subst e2
  exact ⟨ob, o, hob, h1, h2⟩
 have hoff : ∀ (i : Nat) (r : Ref), acc[i]? = some r → r.size = none → env1 i = env r.key := by
  intro i r hi hs
  rw [henv1 i r hi]
  have : r.off = 0 := by
   obtain ⟨ob, o, _, _, h2⟩ := hhand i r hi
   rcases h2 with ⟨cs, sub, sub', _, hsub, _⟩ | ⟨_, _, _, _, _, ho, _⟩ | ⟨_, ho, _⟩
   ·exact ((a5N hsub).2.2.2 hs).1
   ·exact ho
   ·exact ho
  rw [this]
  rfl
 have hnewbase : ∀ key ∈ news, base ≤ key := by
  intro key hk
  rw [hnews] at hk
  obtain ⟨k, o, _, _, h3⟩ := a3G.1 hk
  omega
 have hF : ∀ key ob, get memF key = some ob →
   (∃ k o, acc.length ≤ k ∧ key = base + k ∧ key ∈ news ∧ get res.2 k = some o ∧ ob = b7J acc base o) ∨
   (∃ i r o, acc[i]? = some r ∧ key = r.key ∧ key ∉ news ∧ get res.2 i = some o ∧ c4X acc base (a2L news st).mem r o ob) ∨
   (key ∉ news ∧ (∀ r ∈ acc, r.key ≠ key) ∧ ∃ ob0, get st.mem key = some ob0 ∧ ob = a3n news ob0) := by
  intro key ob hg
  rw [← hmF, c0t, ← hnews] at hg
  by_cases hk : key ∈ news
  ·rw [if_pos hk] at hg
   have hk' := hk
   rw [hnews] at hk'
   obtain ⟨k, o, h1, h2, h3⟩ := a3G.1 hk'
   cases hgk : get res.2 (key - base) with
   | none => rw [hgk] at hg; cases hg
   | some o' =>
    rw [hgk] at hg
    simp only [f6b, f5S] at hg
    have : key - base = k := by omega
    rw [this] at hgk
    exact .inl ⟨k, o', h2, h3, hk, hgk, hg.symm⟩
  ·rw [if_neg hk] at hg
   rcases b8i hnd hm key ob hg with ⟨j, r, o, e1, e2, e3, e4⟩ | ⟨h1, h2⟩
   ·rw [Nat.zero_add] at e3
    exact .inr (.inl ⟨j, r, o, e1, e2, hk, e3, e4⟩)
   ·rw [a80, if_neg hk] at h2
    cases hg0 : get st.mem key with
    | none => rw [hg0] at h2; cases h2
    | some ob0 =>
     rw [hg0] at h2
     simp only [f6b, f5S] at h2
     exact .inr (.inr ⟨hk, h1, ob0, rfl, h2.symm⟩)
 obtain ⟨env2, henv2⟩ : ∃ env2 : Env, env2 = fun k => if k ∈ news then env1 (k - base) else env k := ⟨_, rfl⟩
 have e_old : ∀ key, key ∉ news → env2 key = env key := fun key hk => by rw [henv2]; simp [hk]
 have e_new : ∀ k, base + k ∈ news → env2 (base + k) = env1 k := fun k hk => by rw [henv2]; simp [hk]
 have hslot : ∀ k o, get res.2 k = some o → b2c env1 env2 acc base k := by
  intro k o hg
  unfold b2c a1z
  cases hk : acc[k]? with
  | some r =>
   have hno := b8j hnc k r o hk (by rw [Nat.zero_add]; exact hg)
   simp only
   rw [e_old _ hno, henv1 k r hk]
   exact ⟨rfl, rfl, rfl⟩
  | none =>
   have hle : acc.length ≤ k := by simpa using hk
   have hin : base + k ∈ news := by rw [hnews]; exact a3G.2 ⟨k, o, a5O hg, hle, rfl⟩
   simp only
   rw [e_new k hin]
   exact ⟨rfl, rfl, rfl⟩
 have hslots : ∀ ks : List Nat, (∀ k ∈ ks, ∃ o, get res.2 k = some o) → ∀ k ∈ ks, b2c env1 env2 acc base k := fun ks hks k hk => let ⟨o, ho⟩ := hks k hk; hslot k o ho
 have hclosed : ∀ k o, get res.2 k = some o → (∀ x ∈ a1A o, b2c env1 env2 acc base x) ∧ c4x o = true := by
  intro k o hg
  obtain ⟨q1, q2⟩ := b2b hc2 k o (a5O hg)
  exact ⟨hslots _ q1, q2⟩
 -- what the call may have written
 have hreal : ∀ k o, get res.2 k = some o → a08 o → w.heap.size ≤ (env1 k).blk ∨ ∃ r o', r ∈ acc ∧ get st.mem r.key = some o' ∧ a08 o' ∧ (env r.key).blk = (env1 k).blk := by
  intro k o hg hr
  obtain ⟨x, hx⟩ := d4Z (P := P) (s := env1 k) hr (hclosed k o hg).2
  rcases M1.mu k o _ x hg hx with ⟨k', ob, q1, q2⟩ | h1
  ·obtain ⟨r, o', e1, e2, e3⟩ := e0h hh q1 q2
   obtain ⟨e4, e5⟩ := a2A e3
   exact .inr ⟨r, o', List.mem_of_getElem? e1, e2, e4, e5.symm⟩
  ·exact .inl h1
 have hno : ∀ key ob0, get st.mem key = some ob0 → a08 ob0 → (∀ r ∈ acc, r.key ≠ key) → ∀ x, ¬ a5M P (b5b acc env) mem' (env key).blk x := by
  rintro key ob0 hg hr hne x ⟨k, ob, q1, q2⟩
  obtain ⟨r, o', e1, e2, e3⟩ := e0h hh q1 q2
  obtain ⟨e4, e5⟩ := a2A e3
  have hra := List.mem_of_getElem? e1
  exact h.ds r.key key o' ob0 e2 hg e4 hr (hne r hra) e5.symm
 have hMutOut : ∀ (i : Nat) (r : Ref) (n : Nat) (cs0 : List C), acc[i]? = some r → r.size = some n → get st.mem r.key = some (.box cs0) → ∀ x, a5M P (b5b acc env) mem' (env r.key).blk x → (env r.key).base + r.off ≤ x ∧ x < (env r.key).base + r.off + n := by
  rintro i r n cs0 hi hs hg x ⟨k, ob, q1, q2⟩
  obtain ⟨r', o', e1, e2, e3⟩ := e0h hh q1 q2
  obtain ⟨e4, e5⟩ := a2A e3
  have hkey : r'.key = r.key := by
   by_cases hkk : r'.key = r.key
   ·exact hkk
   ·exact absurd e5.symm (h.ds r'.key r.key o' _ e2 hg e4 trivial hkk)
  have hik : k = i := b8h hnd e1 hi hkey
  subst hik
  obtain ⟨ob2, o2, f1, f2, f3⟩ := hhand k r hi
  rw [q1] at f1
  simp only [f5S] at f1
  subst f1
  rw [hg] at f2
  simp only [f5S] at f2
  subst f2
  rcases f3 with ⟨cs, sub, sub', hcs, hsub, hren, rfl⟩ | ⟨_, _, _, _, hcs, _⟩ | ⟨hmd, _⟩
  ·have hl := (a5N hsub).2.2.1 n hs
   have hl' := a6A hren
   rw [a2u hi] at q2
   obtain ⟨_, m2, m3⟩ := q2
   simp only at m2 m3
   exact ⟨m2, by omega⟩
  ·cases hcs
  ·exact hmd.elim
 have hbox : ∀ (i : Nat) (r : Ref) (n : Nat) (cs : List C), acc[i]? = some r → r.size = some n → r.key ∉ news → get (a2L news st).mem r.key = some (.box cs) → ∃ cs0, get st.mem r.key = some (.box cs0) ∧ cs = cs0.map (a8Z news) ∧ r.off + n ≤ cs0.length := by
  intro i r n cs hi hs hk hg
  rw [a80, if_neg hk] at hg
  cases hg0 : get st.mem r.key with
  | none => rw [hg0] at hg; cases hg
  | some ob0 =>
   rw [hg0] at hg
   simp only [f6b, f5S] at hg
   obtain ⟨cs0, rfl, rfl⟩ := b9F hg
   refine ⟨cs0, rfl, rfl, ?_⟩
   obtain ⟨ob2, o2, f1, f2, f3⟩ := hhand i r hi
   rw [hg0] at f2
   simp only [f5S] at f2
   subst f2
   rcases f3 with ⟨cs, sub, sub', hcs, hsub, hren, rfl⟩ | ⟨_, _, _, _, hcs, _⟩ | ⟨hmd, _⟩
   ·simp only [Obj.box.injEq] at hcs
    subst hcs
    have q := a5N hsub
    have hl := q.2.2.1 n hs
    omega
   ·cases hcs
   ·exact hmd.elim
 have hspl : ∀ (cs : List C) (off : Nat) (sub : List C), off + sub.length ≤ cs.length → (a4H cs off sub).length = cs.length := by
  intro cs off sub hle
  unfold a4H
  simp
  omega
 have hS1 : a0O w' (Sof P (Sof P B M0 n0 env st.mem w) (a5M P (b5b acc env) mem') w.heap.size env1 res.2 w') w' (Sof P B M0 n0 env2 memF w') := by
  intro b x u hS hcell
  refine ⟨⟨?_, hS.2.1, ?_⟩, hcell⟩
  ·rcases hS.1 with h1 | h1 | ⟨k, ob, q1, q2⟩
   ·exact h1.1
   ·exact .inr (.inl (Nat.le_trans h.n0le h1))
   ·obtain ⟨r, o', e1, e2, e3⟩ := e0h hh q1 q2
    rcases h.mu _ _ _ _ e2 e3 with h2 | h2
    ·exact .inr (.inr h2)
    ·exact .inr (.inl h2)
  ·intro key ob hg hmut
   rcases hF key ob hg with ⟨k, o, q1, rfl, q3, q4, rfl⟩ | ⟨i, r, o, q1, rfl, q3, q4, q5⟩ | ⟨q1, q2, ob0, q3, rfl⟩
   ·rw [e_new k q3, b2d] at hmut
    exact hS.2.2 k o q4 hmut
   ·rw [e_old _ q3] at hmut
    rcases q5 with ⟨hs, rfl⟩ | ⟨n, sub, cs, hs, rfl, hn, hcs, rfl⟩
    ·rw [b2d, ← hoff i r q1 hs] at hmut
     exact hS.2.2 i o q4 hmut
    ·obtain ⟨cs0, c1, rfl, c3⟩ := hbox i r n cs q1 hs q3 hcs
     obtain ⟨m1, m2, m3⟩ := hmut
     rw [hspl _ _ _ (by simp; omega)] at m3
     simp only [List.length_map] at m3
     by_cases hin : (env r.key).base + r.off ≤ x ∧ x < (env r.key).base + r.off + n
     ·refine hS.2.2 i _ q4 ?_
      rw [henv1 i r q1]
      exact ⟨m1, hin.1, by simp only; omega⟩
     ·rcases hS.1 with h1 | h1 | h1
      ·exact h1.2.2 r.key _ c1 ⟨m1, m2, m3⟩
      ·have := b5d (h.ob _ _ c1) trivial
       omega
      ·rw [m1] at h1
       exact hin (hMutOut i r n cs0 q1 hs c1 x h1)
   ·rw [e_old _ q1, b1t] at hmut
    obtain ⟨r1, r2⟩ := a2A hmut
    rcases hS.1 with h1 | h1 | h1
    ·exact h1.2.2 key ob0 q3 hmut
    ·have := b5d (h.ob _ _ q3) r1
     omega
    ·rw [r2] at h1
     exact hno key ob0 q3 r1 q2 x h1
 have hall : ∀ key ob, get memF key = some ob → a08 ob → w.heap.size ≤ (env2 key).blk ∨ ∃ r o', (r = key ∨ ((∃ q ∈ acc, q.key = r) ∧ ¬ ((∀ q ∈ acc, q.key ≠ key) ∧ key ∉ news))) ∧ get st.mem r = some o' ∧ a08 o' ∧ (env r).blk = (env2 key).blk := by
  intro key ob hg hr
  have go : ∀ k o, get res.2 k = some o → a08 o → (env1 k).blk = (env2 key).blk → ¬ ((∀ q ∈ acc, q.key ≠ key) ∧ key ∉ news) → w.heap.size ≤ (env2 key).blk ∨ ∃ r o', (r = key ∨ ((∃ q ∈ acc, q.key = r) ∧ ¬ ((∀ q ∈ acc, q.key ≠ key) ∧ key ∉ news))) ∧ get st.mem r = some o' ∧ a08 o' ∧ (env r).blk = (env2 key).blk := by
   intro k o q1 q2 q3 q4
   rcases hreal k o q1 q2 with h1 | ⟨r, o', h1, h2, h3, h4⟩
   ·exact .inl (by omega)
   ·exact .inr ⟨r.key, o', .inr ⟨⟨r, h1, rfl⟩, q4⟩, h2, h3, h4.trans q3⟩
  rcases hF key ob hg with ⟨k, o, q1, rfl, q3, q4, rfl⟩ | ⟨i, r, o, q1, rfl, q3, q4, q5⟩ | ⟨q1, q2, ob0, q3, rfl⟩
  ·exact go k o q4 (a9R.1 hr) (by rw [e_new k q3]) fun hf => hf.2 q3
  ·refine go i o q4 ?_ (by rw [e_old _ q3, henv1 i r q1]) fun hf => hf.1 r (List.mem_of_getElem? q1) rfl
   rcases q5 with ⟨_, rfl⟩ | ⟨n, sub, cs, _, rfl, _⟩
   ·exact a9R.1 hr
   ·trivial
  ·exact .inr ⟨key, ob0, .inl rfl, q3, a2m.1 hr, by rw [e_old _ q1]⟩
 have hreal1 : ∀ key ob, get memF key = some ob → a08 ob → ¬ ((∀ q ∈ acc, q.key ≠ key) ∧ key ∉ news) → ∃ k o, get res.2 k = some o ∧ a08 o ∧ (env1 k).blk = (env2 key).blk ∧ ((acc.length ≤ k ∧ key = base + k) ∨ ∃ r, acc[k]? = some r ∧ key = r.key ∧ key ∉ news) := by
  intro key ob hg hr hn
  rcases hF key ob hg with ⟨k, o, q1, rfl, q3, q4, rfl⟩ | ⟨i, r, o, q1, rfl, q3, q4, q5⟩ | ⟨q1, q2, ob0, q3, rfl⟩
  ·exact ⟨k, o, q4, a9R.1 hr, by rw [e_new k q3], .inl ⟨q1, rfl⟩⟩
  ·refine ⟨i, o, q4, ?_, by rw [e_old _ q3, henv1 i r q1], .inr ⟨r, q1, rfl, q3⟩⟩
   rcases q5 with ⟨_, rfl⟩ | ⟨n, sub, cs, _, rfl, _⟩
   ·exact a9R.1 hr
   ·trivial
  ·exact absurd ⟨q2, q1⟩ hn
 have hsame : ∀ key ob0, get st.mem key = some ob0 → (∀ r ∈ acc, r.key ≠ key) → a08 ob0 → w'.heap[(env key).blk]? = w.heap[(env key).blk]? := fun key ob0 hg hne hr => c4W M1.ch (b5d (h.ob _ _ hg) hr) (hno key ob0 hg hr hne)
 have hobF : a0O w (Sof P B M0 n0 env st.mem w) w' (Sof P B M0 n0 env2 memF w') → ∀ k ob, get memF k = some ob → a0R P env2 (Sof P B M0 n0 env2 memF w') w' (env2 k) ob := by
  intro hkeep key ob hg
  rcases hF key ob hg with ⟨k, o, q1, rfl, q3, q4, rfl⟩ | ⟨i, r, o, q1, rfl, q3, q4, q5⟩ | ⟨q1, q2, ob0, q3, rfl⟩
  ·rw [e_new k q3]
   exact b8l hS1 (fun _ => rfl) (hclosed k o q4).1 (M1.ob k o q4)
  ·rw [e_old _ q3]
   rcases q5 with ⟨hs, rfl⟩ | ⟨n, sub, cs, hs, rfl, hn, hcs, rfl⟩
   ·rw [← hoff i r q1 hs]
    exact b8l hS1 (fun _ => rfl) (hclosed i o q4).1 (M1.ob i o q4)
   ·obtain ⟨cs0, c1, rfl, c3⟩ := hbox i r n cs q1 hs q3 hcs
    obtain ⟨cur0, T, d1, d2, d3, d4⟩ := h.ob _ _ c1
    obtain ⟨cur1, T1, f1, f2, f3, f4⟩ := M1.ob i _ q4
    obtain ⟨cur', fr', k1, k2, k3, _⟩ := M1.ch.cells _ _ _ _ d1
    rw [henv1 i r q1] at f1 f2 f3
    simp only at f1 f2 f3
    rw [k1] at f1
    have hcc : cur' = cur1 ∧ fr' = (0, 0) ∧ T1 = T := by cases f1; exact ⟨rfl, rfl, rfl⟩
    obtain ⟨hcc, hfr, hT⟩ := hcc
    subst hcc hfr
    refine ⟨cur', T, k1, by rw [hspl _ _ _ (by simp; omega)]; simp only [List.length_map]; omega, ?_, b7U (a5i (fun _ => b5c) (by rw [k2]; exact d4)) (a5i (fun _ => c0v) (hT ▸ f4))⟩
    rw [hspl _ _ _ (by simp; omega)]
    simp only [List.length_map]
    refine a0B.of_get ?_ ?_
    ·rw [hspl _ _ _ (by simp; omega)]
     simp only [List.length_map, List.length_take, List.length_drop, Array.length_toList]
     omega
    ·intro j c u hj hu
     unfold a4H at hj
     rw [b4k _ _ _ _ (by simp; omega)] at hj
     rw [List.getElem?_take] at hu
     split at hu
     ·rename_i hjl
      rw [List.getElem?_drop] at hu
      split at hj
      ·rename_i hin
       simp only [List.length_map] at hin
       rw [List.getElem?_map] at hj
       cases hsj : sub[j - r.off]? with
       | none => rw [hsj] at hj; cases hj
       | some c0 =>
        rw [hsj] at hj
        simp only [f6b, f5S] at hj
        subst hj
        refine a4s hS1 (fun k hk => (hclosed i _ q4).1 k ?_) (f3.get2 hsj ?_)
        ·simp only [a1A, List.mem_flatMap]
         exact ⟨c0, List.mem_of_getElem? hsj, hk⟩
        ·rw [List.getElem?_take, if_pos (by omega), List.getElem?_drop, ← hu]
         congr 1
         omega
      ·rename_i hout
       simp only [List.length_map] at hout
       rw [List.getElem?_map] at hj
       cases hsj : cs0[j]? with
       | none => rw [hsj] at hj; cases hj
       | some c0 =>
        rw [hsj] at hj
        simp only [f6b, f5S] at hj
        subst hj
        refine a0x.invals hkeep news e_old (d3.get2 hsj ?_)
        rw [List.getElem?_take, if_pos hjl, List.getElem?_drop, ← hu]
        have := k3 ((env r.key).base + j) fun hm0 => by
         have hmo := hMutOut i r n cs0 q1 hs c1 _ hm0
         exact hout ⟨by omega, by omega⟩
        simpa using this.symm
     ·cases hu
  ·rw [e_old _ q1]
   exact c0u hkeep news e_old (hsame key ob0 q3 q2) (h.ob key ob0 q3)
 refine ⟨env2, Rel.step h (a5M P (b5b acc env) mem') M1.ch ?_ ?_ ?_ hobF ?_ ?_ ?_, ?_⟩
 ·rintro b x ⟨k, ob, q1, q2⟩
  obtain ⟨r, o', e1, e2, e3⟩ := e0h hh q1 q2
  exact ⟨r.key, o', e2, e3⟩
 ·intro key ob b x hg hmut
  have viaM : ∀ k o, get res.2 k = some o → a47 P (env1 k) o b x → w.heap.size ≤ b ∨ ∃ k' ob', get st.mem k' = some ob' ∧ a47 P (env k') ob' b x := by
   intro k o q1 q2
   rcases M1.mu k o b x q1 q2 with ⟨k', ob', m1, m2⟩ | h1
   ·obtain ⟨r, o', e1, e2, e3⟩ := e0h hh m1 m2
    exact .inr ⟨r.key, o', e2, e3⟩
   ·exact .inl h1
  rcases hF key ob hg with ⟨k, o, q1, rfl, q3, q4, rfl⟩ | ⟨i, r, o, q1, rfl, q3, q4, q5⟩ | ⟨q1, q2, ob0, q3, rfl⟩
  ·rw [e_new k q3, b2d] at hmut
   exact viaM k o q4 hmut
  ·rw [e_old _ q3] at hmut
   rcases q5 with ⟨hs, rfl⟩ | ⟨n, sub, cs, hs, rfl, hn, hcs, rfl⟩
   ·rw [b2d, ← hoff i r q1 hs] at hmut
    exact viaM i o q4 hmut
   ·obtain ⟨cs0, c1, rfl, c3⟩ := hbox i r n cs q1 hs q3 hcs
    obtain ⟨m1, m2, m3⟩ := hmut
    rw [hspl _ _ _ (by simp; omega)] at m3
    simp only [List.length_map] at m3
    exact .inr ⟨r.key, _, c1, m1, m2, m3⟩
  ·rw [e_old _ q1, b1t] at hmut
   exact .inr ⟨key, ob0, q3, hmut⟩
 ·intro hkeep t x hx
  rw [b2a] at hx
  cases hg : get st.tmps t with
  | none => rw [hg] at hx; cases hx
  | some y =>
   rw [hg] at hx
   simp only [f6b, f5S] at hx
   subst hx
   exact a0w.invals hkeep news e_old (h.tm t y hg)
 ·intro k1 k2 o1 o2 hg1 hg2 hr1 hr2 hne heq
  -- the two objects share a block
  by_cases hn1 : (∀ q ∈ acc, q.key ≠ k1) ∧ k1 ∉ news
  ·by_cases hn2 : (∀ q ∈ acc, q.key ≠ k2) ∧ k2 ∉ news
   ·rcases hF k1 o1 hg1 with ⟨k, o, q1, rfl, q3, q4, rfl⟩ | ⟨i, r, o, q1, rfl, q3, q4, q5⟩ | ⟨q1, q2, ob0, q3, rfl⟩
    ·exact hn1.2 q3
    ·exact hn1.1 r (List.mem_of_getElem? q1) rfl
    ·rcases hF k2 o2 hg2 with ⟨k, o, p1, rfl, p3, p4, rfl⟩ | ⟨i, r, o, p1, rfl, p3, p4, p5⟩ | ⟨p1, p2, ob1, p3, rfl⟩
     ·exact hn2.2 p3
     ·exact hn2.1 r (List.mem_of_getElem? p1) rfl
     ·rw [e_old _ q1, e_old _ p1] at heq
      exact h.ds k1 k2 ob0 ob1 q3 p3 (a2m.1 hr1) (a2m.1 hr2) hne heq
   ·rcases hF k1 o1 hg1 with ⟨k, o, q1, rfl, q3, q4, rfl⟩ | ⟨i, r, o, q1, rfl, q3, q4, q5⟩ | ⟨q1, q2, ob0, q3, rfl⟩
    ·exact hn1.2 q3
    ·exact hn1.1 r (List.mem_of_getElem? q1) rfl
    ·obtain ⟨k, o, p1, p2, p3, _⟩ := hreal1 k2 o2 hg2 hr2 hn2
     rw [e_old _ q1] at heq
     have hlt := b5d (h.ob _ _ q3) (a2m.1 hr1)
     rcases hreal k o p1 p2 with h1 | ⟨r, o', h1, h2, h3, h4⟩
     ·omega
     ·exact h.ds r.key k1 o' ob0 h2 q3 h3 (a2m.1 hr1) (q2 r h1) (by rw [h4, p3, ← heq])
  ·obtain ⟨ka, oa, p1, p2, p3, p4⟩ := hreal1 k1 o1 hg1 hr1 hn1
   by_cases hn2 : (∀ q ∈ acc, q.key ≠ k2) ∧ k2 ∉ news
   ·rcases hF k2 o2 hg2 with ⟨k, o, q1, rfl, q3, q4, rfl⟩ | ⟨i, r, o, q1, rfl, q3, q4, q5⟩ | ⟨q1, q2, ob0, q3, rfl⟩
    ·exact hn2.2 q3
    ·exact hn2.1 r (List.mem_of_getElem? q1) rfl
    ·rw [e_old _ q1] at heq
     have hlt := b5d (h.ob _ _ q3) (a2m.1 hr2)
     rcases hreal ka oa p1 p2 with h1 | ⟨r, o', h1, h2, h3, h4⟩
     ·omega
     ·exact h.ds r.key k2 o' ob0 h2 q3 h3 (a2m.1 hr2) (q2 r h1) (by rw [h4, p3, heq])
   ·obtain ⟨kb', ob', s1, s2, s3, s4⟩ := hreal1 k2 o2 hg2 hr2 hn2
    by_cases hkk : ka = kb'
    ·subst hkk
     rcases p4 with ⟨u1, u2⟩ | ⟨r, u1, u2, u3⟩
     ·rcases s4 with ⟨v1, v2⟩ | ⟨r', v1, v2, v3⟩
      ·exact hne (by omega)
      ·have := (f55.1 v1).1
       omega
     ·rcases s4 with ⟨v1, v2⟩ | ⟨r', v1, v2, v3⟩
      ·have := (f55.1 u1).1
       omega
      ·rw [u1] at v1
       simp only [f5S] at v1
       exact hne (by rw [u2, v2, v1])
    ·exact M1.ds ka kb' oa ob' p1 s1 p2 s2 hkk (by rw [p3, s3, heq])
 ·intro key e ex xs hg x hx
  have viaM : ∀ k, get res.2 k = some (.row e ex false xs) → B (env1 k).blk x ∨ n0 ≤ (env1 k).blk ∨ M0 (env1 k).blk x := by
   intro k q1
   rcases M1.pr k e ex xs q1 x hx with h1 | h1 | ⟨k', ob', m1, m2⟩
   ·exact h1.1
   ·exact .inr (.inl (Nat.le_trans h.n0le h1))
   ·obtain ⟨r, o', e1, e2, e3⟩ := e0h hh m1 m2
    rcases h.mu _ _ _ _ e2 e3 with h2 | h2
    ·exact .inr (.inr h2)
    ·exact .inr (.inl h2)
  have backRow : ∀ {o : Obj}, b7J acc base o = .row e ex false xs → o = .row e ex false xs := by
   intro o ho
   cases o with
   | box => cases ho
   | row => exact ho
   | map => cases ho
   | tab => cases ho
   | dat => cases ho
  rcases hF key _ hg with ⟨k, o, q1, rfl, q3, q4, q5⟩ | ⟨i, r, o, q1, rfl, q3, q4, q5⟩ | ⟨q1, q2, ob0, q3, q4⟩
  ·rw [e_new k q3]
   rw [backRow q5.symm] at q4
   exact viaM k q4
  ·rw [e_old _ q3]
   rcases q5 with ⟨hs, q5⟩ | ⟨n, sub, cs, hs, rfl, hn, hcs, q5⟩
   ·rw [backRow q5.symm] at q4
    rw [← hoff i r q1 hs]
    exact viaM i q4
   ·cases q5
  ·rw [e_old _ q1]
   refine h.pr key e ex xs ?_ x hx
   rw [q3]
   cases ob0 with
   | box cs => rw [b1u] at q4; cases q4
   | row => rw [b1v] at q4; rw [q4]
   | map => rw [b1w] at q4; cases q4
   | tab => rw [b1x] at q4; cases q4
   | dat => rw [b1y] at q4; cases q4
 ·intro k hk
  exact e_old k fun hf => hfresh k hf hk
 ·exact c7w hS1 hc3 (hslots _ (b1s hc1)) hv
end
end Go.AM

namespace Go.AM
open Go

section
variable {P : Program} {N n0 kb : Nat} {F : Nat → Prop} {B M0 : a0Q} {w0 : World} {e0 : b0H} {env : Env} {st : St} {a : Act} {w : World}
theorem a81 {f : FuncId} {args : Array Value} (he : a8Y P f) : (callFunc f args).run P w = .ok (.enter f args) w := by
 obtain ⟨fn, h1, h2, h3⟩ := he
 unfold callFunc
 simp only [f5Y, run_program, f5V, h1, h2, h3, Bool.false_eq_true, if_false, f5Z]
theorem b9G {fn : Func} (h : fn.name = "internal/bytealg.IndexByteString") (ho : fn.origin = "") : Extern.find fn = some Extern.BytealgIndexByte.indexByte ∧ Extern.findNext fn = none := by
 constructor
 ·unfold Extern.find; rw [h]; rfl
 ·unfold Extern.findNext; rw [h, ho]; rfl
theorem b5U {fn : Func} (h : fn.name = "internal/bytealg.CountString") (ho : fn.origin = "") : Extern.find fn = some Extern.BytealgCount.count ∧ Extern.findNext fn = none := by
 constructor
 ·unfold Extern.find; rw [h]; rfl
 ·unfold Extern.findNext; rw [h, ho]; rfl
theorem d40 {S : a0Q} {f : FuncId} {caps : List (Nat × Nat)} {args : List V} {vs : Array Value} {v : C} (h : f4s P f caps args = some v) (hall : a0B (a0G P env S w) args vs.toList) :
  caps = [] ∧ ∃ u, (callFunc f vs).run P w = .ok (.value u) w ∧ a0x P env S w v u := by
 unfold f4s at h
 split at h
 ·rename_i g hg
  cases hb : g.body.isNone && caps.isEmpty && (g.origin == "") with
  | false => rw [hb] at h; cases h
  | true =>
   rw [hb] at h
   simp only [f5U, cond_true, beq_iff_eq] at hb h
   obtain ⟨⟨hbn, hcaps⟩, ho⟩ := hb
   refine ⟨by simpa using hcaps, ?_⟩
   split at h
   ·rename_i l b
    have hvs : vs = #[.string ⟨l.toArray⟩, .int .u8 b] := by
     rw [← Array.toList_inj]
     generalize vs.toList = L at hall
     match L, hall with
     | [x, y], ⟨h1, h2, _⟩ =>
      have h1 : x = .string ⟨l.toArray⟩ := h1
      have h2 : y = .int .u8 b := h2
      rw [h1, h2]
    subst hvs
    cases h1 : g.name == "internal/bytealg.IndexByteString" with
    | true =>
     rw [h1] at h
     simp only [cond_true, f5S] at h
     subst h
     obtain ⟨q1, q2⟩ := b9G (by simpa using h1) ho
     refine ⟨_, ?_, rfl⟩
     rw [run_callFunc_standIn hg (by rw [show g.name = _ from by simpa using h1]; rfl) hbn q2 q1, Lib.run_indexByteString]
     simp
    | false =>
     rw [h1] at h
     simp only [cond_false] at h
     cases h2 : g.name == "internal/bytealg.CountString" with
     | true =>
      rw [h2] at h
      simp only [cond_true, f5S] at h
      subst h
      obtain ⟨q1, q2⟩ := b5U (by simpa using h2) ho
      refine ⟨_, ?_, rfl⟩
      rw [run_callFunc_standIn hg (by rw [show g.name = _ from by simpa using h2]; rfl) hbn q2 q1, Lib.run_countString]
      simp
     | false => rw [h2] at h; cases h
   ·cases h
 ·cases h
theorem b8m {S : a0Q} {mem : AL Obj} (hob : ∀ key o, get mem key = some o → a0R P env S w (env key) o) (hst : a1p P env S mem) {c : C} {v : Value} (h : a0x P env S w c v) : a0x P env S w (e0p mem c) v := by
 cases c with
 | o key =>
  simp only [e0p]
  split
  ·rename_i e n xs hg
   have hv : v = (env key).hdr := h
   rw [hv]
   exact c9I hob hst hg
  ·exact h
 | _ => exact h
theorem a7Q {S : a0Q} {mem : AL Obj} (hob : ∀ key o, get mem key = some o → a0R P env S w (env key) o) (hst : a1p P env S mem) {x : V} {v : Value} (h : a0G P env S w x v) : a0G P env S w (c1F mem x) v := by
 cases x with
 | c c => exact b8m hob hst h
 | g xs =>
  obtain ⟨vs, h1, h2⟩ := h
  exact ⟨vs, h1, h2.mapl fun c u _ hcu => b8m hob hst hcu⟩
 | _ => exact h
theorem c0w {n base key : Nat} {l : AL Obj} (h : key ∈ a1V n base l) : base ≤ key := by
 obtain ⟨k, o, _, _, h3⟩ := a3G.1 h
 omega
theorem c0x {base : Nat} : ∀ {l : List Nat}, b7L base l = true → ∀ k ∈ l, k < base + 1000000000
 | [], _, k, hk => by simp at hk
 | x :: l, h, k, hk => by
  simp only [b7L, f5U] at h
  rcases f59.1 hk with rfl | hk
  ·exact f54 h.1
  ·exact c0x h.2 k hk
theorem c1Z (kb : Nat) (dst : Option Nat) : kb ≤ a1e kb dst := Nat.le_add_right _ _
theorem b2e {R : Type} {cl : a0f} (hcl : a0b P cl) {f : FuncId} {fn : Func} {args : List V} {vs : Array Value} {mem : AL Obj} {x : List Ref × List (Bool × Res)} {o : Oper} {k : St → Option R} {r : R} {Q : Exit → Act → World → Prop} (hF : ∀ k, a1e kb o.dst ≤ k → k < a1e kb o.dst + 1000000000 → ¬ F k) (hsh : Rel P N n0 B M0 w0 F e0 env { st with mem } a w) (hd : ∀ d, o.dst = some d → d < N)
  (hrun : a8Y P f → (execOp a.eval o).run P w = .ok (.enter f vs) w)
  (hall : a0B (a0G P env (Sof P B M0 n0 env mem w) w) args vs.toList) (hx : b6d P cl f fn mem args = some x)
  (hk : b1g kb mem x o st k = some r) : o.wp P a w (a1d P N n0 B M0 w0 F e0 k r) Q := by
 unfold b6d at hx
 split at hx
 ·cases hx
 ·rename_i acc hacc
  have hnd := a3Y (acc := []) trivial hacc
  split at hx
  ·rename_i args' mem' hren hh
   split at hx
   ·cases hx
   ·rename_i alts hcall
    simp only [f5S] at hx
    subst hx
    unfold b1g at hk
    simp only at hk
    rw [a7h] at hk
    cases hres : a5f alts some with
    | none => rw [hres] at hk; cases hk
    | some res =>
    rw [hres] at hk
    simp only [Option.bind_some] at hk
    obtain ⟨hent, hoks⟩ := hcl f args' mem' alts hcall
    have hok := hoks res hres
    obtain ⟨hpre, hkeep⟩ := c9U hsh hnd hh
    have hC := hok _ _ w vs hpre (b1r hkeep hren hall)
    unfold Oper.wp
    rw [hrun hent, Oper.upon_enter]
    refine hC.mono fun e w' he => ?_
    obtain ⟨v, rfl, hp⟩ := he
    cases hcc : a5H res && a8L res.2 (a1V acc.length (a1e kb o.dst) res.2) acc 0 && b7L (a1e kb o.dst) (a1V acc.length (a1e kb o.dst) res.2) with
    | false => rw [hcc] at hk; cases hk
    | true =>
     rw [hcc] at hk
     simp only [cond_true] at hk
     simp only [f5U] at hcc
     split at hk
     ·cases hk
     ·rename_i mem2 hm2
      obtain ⟨env2, q1, q2⟩ := c4Z hsh hnd hh hp (fun k hk => hF k (c0w hk) (c0x hcc.2 k hk)) rfl hcc.1.1 hcc.1.2 hm2
      exact ⟨env2, _, q1.put hd (a0w.of q2), hk⟩
  ·cases hx
theorem b5e {R : Type} {cl : a0f} (hcl : a0b P cl) {f : FuncId} {args : List V} {vs : Array Value} {o : Oper} {k : St → Option R} {r : R} {Q : Exit → Act → World → Prop} (hF : ∀ k, a1e kb o.dst ≤ k → k < a1e kb o.dst + 1000000000 → ¬ F k) (h : Rel P N n0 B M0 w0 F e0 env st a w) (hd : ∀ d, o.dst = some d → d < N)
  (hrun : a8Y P f → (execOp a.eval o).run P w = .ok (.enter f vs) w)
  (hargs : ∀ mem, Rel P N n0 B M0 w0 F e0 env { st with mem } a w → a0B (a0G P env (Sof P B M0 n0 env mem w) w) args vs.toList)
  (hk : c0c P cl kb f args o st k = some r) : o.wp P a w (a1d P N n0 B M0 w0 F e0 k r) Q := by
 unfold c0c at hk
 split at hk
 ·cases hk
 ·rename_i fn hfn
  split at hk
  ·rename_i x hx
   cases hb : (args.flatMap a4Z).isEmpty with
   | true => rw [hb] at hx; cases hx
   | false =>
    rw [hb] at hx
    exact b2e hcl (mem := st.mem) hF h hd hrun (hargs st.mem h) hx hk
  ·simp only at hk
   have hsh := Rel.share (args.flatMap a4Z) (mem := st.mem) h
   generalize hmem : a0J st.mem (args.flatMap a4Z) = mem at hk hsh
   split at hk
   ·rename_i x hx
    exact b2e hcl hF hsh hd hrun ((hargs mem hsh).mapl (R2 := a0G P env (Sof P B M0 n0 env mem w) w) fun x v _ hxv => a7Q hsh.ob hsh.rows hxv) hx hk
   ·cases hk
end
end Go.AM

namespace Go.AM
open Go

section
variable {P : Program} {N n0 kb : Nat} {F : Nat → Prop} {B M0 : a0Q} {w0 : World} {e0 : b0H} {env : Env} {st : St} {a : Act} {w : World}
theorem b8n {α β γ : Type} {R : β → γ → Prop} {f : α → β} {g : α → γ} : ∀ {l : List α}, (∀ x ∈ l, R (f x) (g x)) → a0B R (l.map f) (l.map g)
 | [], _ => trivial
 | x :: l, h => ⟨h x (by simp), b8n fun y hy => h y (by simp [hy])⟩
theorem b2f {S : a0Q} {k : CK} {d : D} {v : Value} (h : a2e P w S k d v) (hn : d.isNil = true) : (∃ e, k = .sl e) → v = .slice none 0 0 := by
 intro he
 cases h with
 | nil => rfl
 | emp e d a cap h1 => rw [hn] at h1; cases h1
 | sl e d b off cap cv h1 => rw [hn] at h1; cases h1
 | _ => obtain ⟨e, he⟩ := he; cases he
theorem c40 {fn : Nat} {vs : List Value} : fnW false fn vs = .func (.func fn) #[] vs.toArray := rfl
theorem e0D {fn : Nat} {vs : List Value} : fnW true fn vs = .func (.func (fn - bm)) vs.toArray #[] := rfl
theorem e32 {fn : Nat} {α : Type} {caps : List α} {b : Bool} (h : a2h fn caps = b) : f4l fn caps = bif b then fn - bm else fn := by unfold f4l; rw [h]
theorem c41 {fn : Nat} {α β : Type} {caps : List α} {xs ys : List β} {b : Bool} (h : a2h fn caps = b) : c7e fn caps xs ys = bif b then ys ++ xs else xs ++ ys := by unfold c7e; rw [h]
theorem d41 {o : Oper} {c : Call} {f : Operand} {g : FuncId} {us : Array Value} (ho : o.op = .call c) (hc : c.callee = .value f) (hv : a.eval f = .func (.func g) us #[]) (he : a8Y P g) :
  (execOp a.eval o).run P w = .ok (.enter g (us ++ c.args.map a.eval)) w := by
 simp only [execOp, ho, resolve, hc, hv, Deferred.ofValue, f5Y, f5Z, f5V, invoke]
 rw [Array.append_empty]
 exact a81 he
theorem d2A {fn : Nat} {α : Type} : a2h fn ([] : List α) = false := rfl
theorem c42 {R : Type} {d : Nat} {c : Call} {s x : Operand} {T T' : TypeId} {k : St → Option R} {r : R} {o : Oper} {Q : Exit → Act → World → Prop} {el : TypeId} {ys : List D}
  (h : Rel P N n0 B M0 w0 F e0 env st a w) (hd : d < N) (hF : ¬ F (kb + d)) (ho : o.op = .call c) (hdst : o.dst = some d) (hc : c.callee = .builtin .append) (ha : c.args.toList = [s, x]) (ht : c.argTypes.toList = [T, T']) (hT : T = T')
  (hel : a0t P T = some el) (hz : (a5g P el).isNone = false) (hys : e9k st.mem el (evu st x) = some ys)
  (hk : (match evu st s with
      | .c (.o key) => (match get st.mem key with
       | some (.row el' ex nl xs) => bif Nat.beq el el' && a2z P el (xs.length + ys.length) then
         k ((a0L (kb + d) (.row el ex (ys.isEmpty && nl) (xs ++ ys)) { st with mem := del st.mem key }).put (some d) (.c (.o (kb + d)))) else none
       | _ => none)
      | .c (.sl _ true []) | .c (.v (.slice none 0 0)) => bif a2z P el ys.length then
        k ((a0L (kb + d) (.row el true ys.isEmpty ys) st).put (some d) (.c (.o (kb + d)))) else none
      | .c (.z el' n) => bif Nat.beq el el' && a2z P el ys.length then (bif ys.isEmpty then k (st.put (some d) (.c (.sl el n []))) else
        k ((a0L (kb + d) (.row el true false ys) st).put (some d) (.c (.o (kb + d))))) else none
      | _ => none) = some r) : o.wp P a w (a1d P N n0 B M0 w0 F e0 k r) Q := by
 subst hT
 have ha' : c.args = #[s, x] := by rw [← Array.toList_inj]; exact ha
 have ht' : c.argTypes = #[T, T] := by rw [← Array.toList_inj]; exact ht
 have hexec : ∀ {v : Value} {w' : World}, (Builtin.append_ #[T, T] o.type #[a.eval s, a.eval x]).run P w = .ok v w' → (execOp a.eval o).run P w = .ok (.value v) w' := by
  intro v w' hr
  simp only [execOp, ho, resolve, hc, ha', ht', f5Y, f5Z, f5V, invoke, builtin, List.map_toArray, List.map_cons, List.map_nil, hr]
 obtain ⟨z, hz'⟩ := Option.isSome_iff_exists.1 (by rw [← Option.not_isNone, hz]; rfl : (a5g P el).isSome = true)
 obtain ⟨zv, _, ⟨i, hi, hiz⟩, hzs, _⟩ := a2t hz'
 have hsrc := c0n h (h.evu x) hys
 have es := h.evu s
 have fin : ∀ {v : Value} {w' : World} {env' : Env} {o' : Obj} {mem0 : AL Obj}, (Builtin.append_ #[T, T] o.type #[a.eval s, a.eval x]).run P w = .ok v w' → Rel P N n0 B M0 w0 F e0 env' (a0L (kb + d) o' { st with mem := mem0 }) a w' → v = (env' (kb + d)).hdr →
   k ((a0L (kb + d) o' { st with mem := mem0 }).put (some d) (.c (.o (kb + d)))) = some r → o.wp P a w (a1d P N n0 B M0 w0 F e0 k r) Q := by
  intro v w' env' o' mem0 h1 h2 h3 h4
  refine a0X (hexec h1) ?_
  rw [hdst]
  exact ⟨env', _, h2.put (fun _ hdd => by cases hdd; exact hd) (a0w.of (x := .c (.o (kb + d))) h3), h4⟩
 have nilCase : a.eval s = .slice none 0 0 → ∀ (mem0 : AL Obj) (ex : Bool), (∀ k ob, get mem0 k = some ob → get st.mem k = some ob) → a2z P el ys.length = true →
   k ((a0L (kb + d) (.row el ex ys.isEmpty ys) { st with mem := mem0 }).put (some d) (.c (.o (kb + d)))) = some r → o.wp P a w (a1d P N n0 B M0 w0 F e0 k r) Q := by
  intro hs mem0 ex hsub hroom hkk
  simp only [a2z, f5U, decide_eq_true_eq] at hroom
  obtain ⟨v, w', env', q1, q2, q3⟩ := a8m h hsub (ty := o.type) hel hi hiz hzs hsrc hroom.1 hroom.2 (kb + d) hF ex
  rw [← hs] at q1
  exact fin q1 q2 q3 hkk
 split at hk
 ·rename_i key hkey
  rw [hkey] at es
  have hsv : a.eval s = (env key).hdr := es
  split at hk
  ·rename_i el' ex nl xs hg
   cases hb : Nat.beq el el' && a2z P el (xs.length + ys.length) with
   | false => rw [hb] at hk; cases hk
   | true =>
    rw [hb] at hk
    simp only [cond_true] at hk
    simp only [f5U] at hb
    have := f5T hb.1
    subst this
    have hroom := hb.2
    cases nl with
    | true =>
     obtain ⟨_, ⟨_, rfl, hnil⟩ | ⟨hf, _⟩⟩ := h.ob _ _ hg
     ·rw [List.length_nil, Nat.zero_add] at hroom
      refine nilCase (hsv.trans hnil) (del st.mem key) ex (fun k ob hgk => (a0S k ob hgk).2) hroom ?_
      simpa using hk
     ·cases hf
    | false =>
     simp only [a2z, f5U, decide_eq_true_eq] at hroom
     obtain ⟨v, w', env', q1, q2, q3⟩ := b5S h (ty := o.type) hel hg hi hiz hzs hsrc hroom.1 hroom.2 (kb + d) hF
     rw [← hsv] at q1
     exact fin q1 q2 q3 (by simpa using hk)
  ·cases hk
 ·rename_i hsl
  rw [hsl] at es
  cases hb : a2z P el ys.length with
  | false => rw [hb] at hk; cases hk
  | true =>
   rw [hb] at hk
   refine nilCase ?_ st.mem true (fun _ _ hg => hg) hb hk
   exact b2f es rfl ⟨_, rfl⟩
 ·rename_i hsl
  rw [hsl] at es
  cases hb : a2z P el ys.length with
  | false => rw [hb] at hk; cases hk
  | true =>
   rw [hb] at hk
   exact nilCase es st.mem true (fun _ _ hg => hg) hb hk
 ·rename_i el' n hz0
  rw [hz0] at es
  cases hb : Nat.beq el el' && a2z P el ys.length with
  | false => rw [hb] at hk; cases hk
  | true =>
   rw [hb] at hk
   simp only [cond_true] at hk
   simp only [f5U] at hb
   have := f5T hb.1
   subst this
   have hroom := hb.2
   rcases es with ⟨rfl, hs⟩ | ⟨rfl, ad, hs⟩
   ·cases ye : ys.isEmpty with
    | false => rw [ye] at hk; exact nilCase hs st.mem true (fun _ _ hg => hg) hroom (by rw [ye]; exact hk)
    | true =>
     rw [ye] at hk
     have : ys = [] := by simpa using ye
     subst this
     obtain ⟨v, w', env', q1, q2, q3⟩ := a8m h (mem0 := st.mem) (fun _ _ hg => hg) (ty := o.type) hel hi hiz hzs hsrc (by simp) (by simp [a0U]) (kb + d) hF true
     rw [← hs] at q1
     -- nothing is appended to nil: nil
     have q4 : (Builtin.append_ #[T, T] o.type #[a.eval s, a.eval x]).run P w = .ok (.slice none 0 0) w := by
      rw [hs]
      obtain ⟨hu, hsz, hty, hpos⟩ := a0o hel
      rcases hsrc.src with ⟨ao, c, hx, _⟩ | ⟨b, o', c, hx, _⟩
      ·rw [hx]
       cases ao <;> simp [Builtin.append_, run_underlying hu, sizeOf, typeInfo, hi, Builtin.lenOf, Builtin.firstCells, loadCells, loadCellsFrom]
      ·rw [hx]
       simp [Builtin.append_, run_underlying hu, sizeOf, typeInfo, hi, Builtin.lenOf, Builtin.firstCells, loadCells, loadCellsFrom]
     refine a0X (hexec q4) ?_
     rw [hdst]
     exact ⟨_, _, h.put (fun _ hdd => by cases hdd; exact hd) (a0w.of (x := .c (.sl el true [])) (a2e.nil el _ rfl rfl)), hk⟩
   ·obtain ⟨hu, hsz, hty, hpos⟩ := a0o hel
    cases ye : ys.isEmpty with
    | true =>
     rw [ye] at hk
     have : ys = [] := by simpa using ye
     subst this
     have q4 : (Builtin.append_ #[T, T] o.type #[a.eval s, a.eval x]).run P w = .ok (.slice (some ad) 0 0) w := by
      rw [hs]
      rcases hsrc.src with ⟨ao, c, hx, _⟩ | ⟨b, o', c, hx, _⟩
      ·rw [hx]
       cases ao <;> simp [Builtin.append_, run_underlying hu, sizeOf, typeInfo, hi, Builtin.lenOf, Builtin.firstCells, storeCells, loadCells, loadCellsFrom]
      ·rw [hx]
       simp [Builtin.append_, run_underlying hu, sizeOf, typeInfo, hi, Builtin.lenOf, Builtin.firstCells, storeCells, loadCells, loadCellsFrom]
     refine a0X (hexec q4) ?_
     rw [hdst]
     exact ⟨_, _, h.put (fun _ hdd => by cases hdd; exact hd) (a0w.of (x := .c (.sl el false [])) (a2e.emp el _ ad 0 rfl rfl (Nat.zero_le _))), hk⟩
    | false =>
     rw [ye] at hk
     simp only [a2z, f5U, decide_eq_true_eq] at hroom
     obtain ⟨v, w', env', q1, q2, q3⟩ := b5R h (mem0 := st.mem) (fun _ _ hg => hg) (ty := o.type) (ad := ad) hel hi hiz hzs hsrc ye hroom.1 hroom.2 (kb + d) hF true
     rw [← hs] at q1
     exact fin q1 q2 q3 hk
 ·cases hk
theorem c43 {S : a0Q} {x : V} {v : Value} (hp : a44 (c4y x) = true) (h : a0G P env S w x v) : a0G P env S w (.c (c4y x)) v := by
 cases x <;> first | exact h | cases hp
theorem a00 {o : Oper} {d : Nat} (hv : a2p P o = false) (he : a07 o = false) (hd : o.dst = some d) : a0I P kb o (kb + d) = true := by
 unfold a0I
 rw [hv, he, hd]
 simp [a0v]
theorem d2B {R : Type} {cl : a0f} (hcl : a0b P cl) {o : Oper} {k : St → Option R} {r : R} {Q : Exit → Act → World → Prop} (hF : ∀ k, a0I P kb o k = true → ¬ F k) (hv : a2p P o = false) (h : Rel P N n0 B M0 w0 F e0 env st a w) (hd : ∀ d, o.dst = some d → d < N) (hk : e89 P cl kb o st k = some r) :
  o.wp P a w (a1d P N n0 B M0 w0 F e0 k r) Q := by
 unfold e89 at hk
 simp only at hk
 split at hk
 ·rename_i T d ho hdst
  cases hdb : e3T P T with
  | true =>
   rw [hdb] at hk
   simp only [cond_true] at hk
   split at hk
   ·rename_i z hz; exact c4T h (hd d hdst) (hF _ (a00 hv (by simp [a07, ho]) hdst)) ho hdst hdb hz hk
   ·cases hk
  | false =>
   rw [hdb] at hk
   simp only [cond_false] at hk
   split at hk
   ·rename_i z hz; exact c7r h (hd d hdst) (hF _ (a00 hv (by simp [a07, ho]) hdst)) ho hdst hz hk
   ·cases hk
 ·rename_i T x d ho hdst
  cases hdb : e3T P T with
  | true =>
   rw [hdb] at hk
   simp only [cond_true] at hk
   split at hk
   ·rename_i z hz
    have hsh := Rel.share (a4Z (evu st x)) (mem := st.mem) h
    exact d2u hsh (hd d hdst) (hF _ (a00 hv (by simp [a07, ho]) hdst)) ho hdst hdb (by rw [a8V]; exact hz) hk
   ·cases hk
  | false =>
   rw [hdb] at hk
   simp only [cond_false] at hk
   split at hk
   ·rename_i z hz; exact d4T h (hd d hdst) (hF _ (a00 hv (by simp [a07, ho]) hdst)) ho hdst hz hk
   ·cases hk
 ·rename_i T ad x ho
  split at hk
  ·rename_i c mem hs
   cases c with
   | false => cases hk
   | true =>
    have hsh := Rel.share (bif d4q st.mem (evu st ad) then a4Z (evu st x) else []) (mem := st.mem) h
    exact c7s hsh hd ho (by rw [a8V, a8V]; exact hs) hk
  ·cases hk
 ·rename_i T n parts d ho hdst
  split at hk
  ·rename_i el hel
   split at hk
   ·rename_i z hz
    have hz : a5g P el = some z := by
     cases hnp : c9y P el (parts.toList.map fun (i, x) => (i, evu st x)) with
     | true => rw [hnp] at hz; cases hz
     | false => rw [hnp] at hz; exact hz
    split at hk
    ·rename_i ds hds
     cases hn : decide (n * a0d P el ≤ 16777216) with
     | false => rw [hn] at hk; cases hk
     | true =>
      rw [hn] at hk
      have hsh := Rel.share ((parts.toList.map fun (i, x) => (i, evu st x)).flatMap fun p => a4Z p.2) (mem := st.mem) h
      exact b5Q hsh (hd d hdst) (hF _ (a00 hv (by simp [a07, ho]) hdst)) ho hdst hel hz (by simpa only [a8V] using hds) (by simpa using hn) hk
    ·cases hk
   ·split at hk
    ·rename_i z hz
     split at hk
     ·rename_i cs hcs
      cases hb : Nat.beq (a0d P el) 1 && Nat.blt 0 n && decide (n ≤ 16777216) with
      | false => rw [hb] at hk; cases hk
      | true =>
       rw [hb] at hk
       simp only [f5U, decide_eq_true_eq] at hb
       exact b4l h (hd d hdst) (hF _ (a00 hv (by simp [a07, ho]) hdst)) ho hdst hel hz hcs (f5T hb.1.1) (f54 hb.1.2) hb.2 hk
     ·cases hk
    ·cases hk
  ·cases hk
 ·rename_i T l c d ho hdst
  split at hk
  ·rename_i el n m hel hl hc
   split at hk
   ·rename_i z hz
    cases hb : decide (0 ≤ n) && decide (n ≤ m) && a2z P el m.toNat with
    | false => rw [hb] at hk; cases hk
    | true =>
     rw [hb] at hk
     simp only [f5U, decide_eq_true_eq] at hb
     exact b8e h (hd d hdst) (hF _ (a00 hv (by simp [a07, ho]) hdst)) ho hdst hel hl hc hz hb.1.1 hb.1.2 hb.2 hk
   ·cases hk
  ·cases hk
 ·rename_i T x lo hi mx d ho hdst
  unfold b7M at hk
  split at hk
  ·rename_i key n hh hbc
   have hb' : (evu st x = .c (.bs key n) ∨ evu st x = .c (.bx key n)) ∧ lo = none ∧ hi = some hh ∧ mx = none := by
    unfold e3X at hbc
    split at hbc
    ·rename_i he; cases hbc; exact ⟨.inl he, rfl, rfl, rfl⟩
    ·rename_i he; cases hbc; exact ⟨.inr he, rfl, rfl, rfl⟩
    ·cases hbc
   obtain ⟨hx', rfl, rfl, rfl⟩ := hb'
   split at hk
   ·rename_i kk j hj
    cases hb : (a0t P T).isSome && decide (0 ≤ j) && decide (j ≤ n) && decide (n ≤ a0U) with
    | false => rw [hb] at hk; cases hk
    | true =>
     rw [hb] at hk
     simp only [f5U, decide_eq_true_eq] at hb
     exact b9D h (hd d hdst) ho hdst hx' hj hb.1.1.1 hb.1.1.2 hb.1.2 hb.2 hk
   ·cases hk
  rename_i hbn
  clear hbn
  split at hk
  ·rename_i key hh hoc
   unfold e3W at hoc
   split at hoc
   ·rename_i key' h0 hex
    split at hoc
    ·simp only [f5S, f6a] at hoc
     obtain ⟨rfl, rfl⟩ := hoc
     split at hk
     ·rename_i el nl xs kk n el' hg hhi hel
      cases hb : Nat.beq el el' && decide (0 ≤ n) && decide (n ≤ xs.length) with
      | false => rw [hb] at hk; cases hk
      | true =>
       rw [hb] at hk
       simp only [f5U, decide_eq_true_eq] at hb
       have := f5T hb.1.1
       subst this
       exact b9C h (hd d hdst) (hF _ (a00 hv (by simp [a07, ho]) hdst)) ho hdst hex hg hhi hel hb.1.2 hb.2 hk
     ·cases hk
    ·cases hoc
   ·cases hoc
  ·have hsh := Rel.share (a4Z (evu st x)) (mem := st.mem) h
   have opt : ∀ q : Option Operand, (q.map (evu st) = none ∧ q.map a.eval = none) ∨ ∃ l v, q.map (evu st) = some l ∧ q.map a.eval = some v ∧ a0w P env (Sof P B M0 n0 env (a0J st.mem (a4Z (evu st x))) w) w a l v := by
    intro q
    cases q with
    | none => exact .inl ⟨rfl, rfl⟩
    | some q =>
     have := hsh.evu q
     rw [a8V] at this
     exact .inr ⟨_, _, rfl, rfl, a0w.of this⟩
   have hx : a0G P env (Sof P B M0 n0 env (a0J st.mem (a4Z (evu st x))) w) w (c1F (a0J st.mem (a4Z (evu st x))) (evu st x)) (a.eval x) := by
    have := hsh.evu x
    rw [a8V] at this
    exact a7Q hsh.ob hsh.rows this
   split at hk
   ·split at hk
    ·rename_i c v hsv
     cases c with
     | false => cases hk
     | true =>
      obtain ⟨v', q1, q2⟩ := b43 (ac := a) hx (opt lo) (opt hi) hsv
      refine a0X (v := v') (w' := w) ?_ ?_
      ·simp only [execOp, ho, Option.map_none, f5Y, q1, f5V, f5Z]
      ·rw [hdst]
       exact ⟨_, _, hsh.put (fun _ hdd => by cases hdd; exact hd d hdst) (a0w.of q2), hk⟩
    ·cases hk
   ·rename_i m _
    split at hk
    ·cases hk
    ·rename_i hh _
     cases hz : c0a hh && c0a m && lo.isNone with
     | true =>
      rw [hz] at hk
      simp only [cond_true] at hk
      simp only [f5U] at hz
      have zop : ∀ q : Operand, c0a q = true → ∃ kk, a.eval q = .int kk 0 := by
       intro q hq
       unfold c0a at hq
       split at hq
       ·rename_i kk; exact ⟨kk, rfl⟩
       ·cases hq
      obtain ⟨k1, e1⟩ := zop hh hz.1.1
      obtain ⟨k2, e2⟩ := zop m hz.1.2
      have e3 : lo = none := by cases lo with
       | none => rfl
       | some _ => cases hz.2
      subst e3
      split at hk
      ·rename_i e' el n xs hu hdx
       cases hb : Nat.beq el e' && tyB P el with
       | false => rw [hb] at hk; cases hk
       | true =>
        rw [hb] at hk
        simp only [f5U] at hb
        have := f5T hb.1
        subst this
        rw [hdx] at hx
        obtain ⟨v', q1, q2⟩ := c4N (k1 := k1) (k2 := k2) hx hu hb.2
        refine a0X (v := v') (w' := w) ?_ ?_
        ·simp only [execOp, ho, Option.map_none, f6b, e1, e2, f5Y, q1, f5V, f5Z]
        ·rw [hdst]
         exact ⟨_, _, hsh.put (fun _ hdd => by cases hdd; exact hd d hdst) (a0w.of q2), hk⟩
      ·cases hk
     | false =>
      rw [hz] at hk
      simp only [cond_false] at hk
      split at hk
      ·rename_i c v hsv
       cases c with
       | false => cases hk
       | true =>
        have h1 := hsh.evu hh
        have h2 := hsh.evu m
        rw [a8V] at h1 h2
        obtain ⟨v', q1, q2⟩ := c4M (ac := a) hx (opt lo) h1 h2 hsv
        refine a0X (v := v') (w' := w) ?_ ?_
        ·simp only [execOp, ho, f6b, f5Y, q1, f5V, f5Z]
        ·rw [hdst]
         exact ⟨_, _, hsh.put (fun _ hdd => by cases hdd; exact hd d hdst) (a0w.of q2), hk⟩
      ·cases hk
 ·rename_i s t x d ho hdst
  split at hk
  ·rename_i el l hs hel hx
   cases hb : b9z P el && Nat.ble l.length a0U with
   | false => rw [hb] at hk; cases hk
   | true =>
    rw [hb] at hk
    simp only [f5U] at hb
    exact c1W h (hd d hdst) (hF _ (a00 hv (by simp [a07, ho]) hdst)) ho hdst hs hel hx hb.1 (f54 hb.2) hk
  ·rename_i u0 el key hs hel hx
   split at hk
   ·rename_i el' xs hg
    cases hb : Nat.beq s t && Nat.beq el el' && b9z P el with
    | false => rw [hb] at hk; cases hk
    | true =>
     rw [hb] at hk
     simp only [f5U] at hb
     have e2 := f5T hb.1.2
     subst e2
     exact d2w h (hd d hdst) ho hdst (f5T hb.1.1) hel hx hg hb.2 hk
   ·cases hk
  ·cases hk
 ·rename_i T d ho hdst
  split at hk
  ·exact c1V h (hd d hdst) (hF _ (a00 hv (by simp [a07, ho]) hdst)) ho hdst hk
  ·cases hk
 ·rename_i T m key x ho
  split at hk
  ·rename_i mk kt' vt' hm hu
   split at hk
   ·rename_i kt vt es hg
    cases hb : Nat.beq kt kt' with
    | false => rw [hb] at hk; cases hk
    | true =>
     rw [hb] at hk
     have := f5T hb
     subst this
     simp only [cond_true] at hk
     split at hk
     ·rename_i kd vd hkd hvd
      split at hk
      ·rename_i b hself
       exact a8W h hd (by simp only [execOp, ho]) hm hu hg hkd hvd hself (d4M hself es) hk
      ·cases hk
     ·cases hk
   ·cases hk
  ·cases hk
 ·rename_i T m key x ho
  split at hk
  ·rename_i mk kt' vt' hm hu
   split at hk
   ·rename_i kt vt es hg
    cases hb : Nat.beq kt kt' with
    | false => rw [hb] at hk; cases hk
    | true =>
     rw [hb] at hk
     have := f5T hb
     subst this
     simp only [cond_true] at hk
     split at hk
     ·rename_i kd vd hkd hvd
      split at hk
      ·rename_i b hself
       exact a8W h hd (by simp only [execOp, ho]) hm hu hg hkd hvd hself (d4M hself es) hk
      ·cases hk
     ·rename_i kd hkd hvd
      split at hk
      ·rename_i b hself
       cases hp : a44 (c4y (evu st x)) with
       | false => rw [hp] at hk; cases hk
       | true =>
        rw [hp] at hk
        exact b49 (es := []) h hd (by simp only [execOp, ho]) hm hu hg (.inr ⟨rfl, _, rfl⟩) hkd (c43 hp (h.evu x)) hself rfl hk
      ·cases hk
     ·cases hk
   ·rename_i kt vt es hg
    cases hb : Nat.beq kt kt' with
    | false => rw [hb] at hk; cases hk
    | true =>
     rw [hb] at hk
     have := f5T hb
     subst this
     simp only [cond_true] at hk
     split at hk
     ·rename_i kd hkd
      split at hk
      ·rename_i b hself
       split at hk
       ·rename_i hpos
        cases hp : a44 (c4y (evu st x)) with
        | false => rw [hp] at hk; cases hk
        | true =>
         rw [hp] at hk
         exact b49 h hd (by simp only [execOp, ho]) hm hu hg (.inl ⟨_, rfl⟩) hkd (c43 hp (h.evu x)) hself hpos hk
       ·cases hk
      ·cases hk
     ·cases hk
   ·cases hk
  ·cases hk
 ·rename_i T x key d ho hdst
  cases hfm : c1E P T with
  | false => rw [hfm] at hk; cases hk
  | true =>
   rw [hfm] at hk
   simp only [cond_true] at hk
   split at hk
   ·rename_i mk kt' vt' hm hu
    split at hk
    ·rename_i kt vt es hg
     cases hb : Nat.beq kt kt' && Nat.beq vt vt' with
     | false => rw [hb] at hk; cases hk
     | true =>
      rw [hb] at hk
      simp only [f5U] at hb
      have e1 := f5T hb.1
      have e2 := f5T hb.2
      subst e1 e2
      simp only [cond_true] at hk
      split at hk
      ·rename_i kd z hkd hz
       split at hk
       ·rename_i b hself
        rw [c1S] at hk
        obtain ⟨v, hrun, hrel⟩ := c1R h.ob h.rows (h.evu x) (h.evu key) hm hu hg hkd hz hself
        refine a0X (v := v) (w' := w) ?_ ⟨env, _, Rel.put h hd (a0w.of hrel), by rw [hdst]; exact hk⟩
        simp only [execOp, ho, f5Y, hrun, f5V, f5Z]
       ·cases hk
      ·cases hk
    ·rename_i kt vt es hg
     cases hb : Nat.beq kt kt' && Nat.beq vt vt' with
     | false => rw [hb] at hk; cases hk
     | true =>
      rw [hb] at hk
      simp only [f5U] at hb
      have e1 := f5T hb.1
      have e2 := f5T hb.2
      subst e1 e2
      simp only [cond_true] at hk
      split at hk
      ·rename_i kd z hkd hz
       split at hk
       ·rename_i b hself
        split at hk
        ·rename_i c hp
         obtain ⟨v, hrun, hrel⟩ := b19 h.ob h.rows (h.evu x) (h.evu key) hm hu hg hkd hz hself hp
         refine a0X (v := v) (w' := w) ?_ ⟨env, _, Rel.put h hd (a0w.of hrel), by rw [hdst]; exact hk⟩
         simp only [execOp, ho, f5Y, hrun, f5V, f5Z]
        ·rename_i hp
         obtain ⟨v, hrun, hrel⟩ := b19 h.ob h.rows (h.evu x) (h.evu key) hm hu hg hkd hz hself hp
         refine a0X (v := v) (w' := w) ?_ ⟨env, _, Rel.put h hd (a0w.of hrel), by rw [hdst]; exact hk⟩
         simp only [execOp, ho, f5Y, hrun, f5V, f5Z]
        ·cases hk
       ·cases hk
      ·cases hk
    ·cases hk
   ·cases hk
 ·rename_i T x i d ho hdst
  cases hos : b7H P T with
  | false => rw [hos] at hk; cases hk
  | true =>
   rw [hos] at hk
   obtain ⟨y, h1, h2⟩ := d2p hk
   obtain ⟨v, hrun, hrel⟩ := a8l h.ob (h.evu x) (h.evu i) h1
   refine a0X (v := v) (w' := w) ?_ ⟨env, _, Rel.put h hd (a0w.of hrel), by rw [hdst]; exact h2⟩
   simp only [execOp, ho, f5Y, hrun, f5V, f5Z]
 ·rename_i c ho
  split at hk
  ·rename_i hc
   split at hk
   ·rename_i d s x T T' hdst ha ht
    cases hT : Nat.beq T T' with
    | false =>
     rw [show (!Nat.beq T T') = true by rw [hT]; rfl] at hk
     simp only [cond_true] at hk
     split at hk
     ·rename_i el ik e' kk n hel hu' hes hex
      split at hk
      ·rename_i z hz
       cases hb : decide (0 ≤ n) && a2z P el n.toNat with
       | false => rw [hb] at hk; cases hk
       | true =>
        rw [hb] at hk
        simp only [f5U, decide_eq_true_eq] at hb
        have hs' := h.evu s
        rw [hes] at hs'
        exact b4m h (hd d hdst) (hF _ (a00 hv (by simp [a07, ho, hc]) hdst)) ho hdst hc ha ht hel hu' (b2f hs' rfl ⟨_, rfl⟩) hex hz hb.1 hb.2 hk
      ·cases hk
     ·rename_i el ik key kk n hel hu' hes hex
      split at hk
      ·rename_i el' ex xs z hg hz
       cases hb : Nat.beq el el' && decide (0 ≤ n) && a2z P el (xs.length + n.toNat) with
       | false => rw [hb] at hk; cases hk
       | true =>
        rw [hb] at hk
        simp only [f5U, decide_eq_true_eq] at hb
        have := f5T hb.1.1
        subst this
        exact b0I h (hd d hdst) (hF _ (a00 hv (by simp [a07, ho, hc]) hdst)) ho hdst hc ha ht hel hu' hes hex hg hz hb.1.2 hb.2 hk
      ·cases hk
     ·rename_i el key l hel hu' hes hex
      split at hk
      ·rename_i el' ex nl xs z hg hz
       cases hb : Nat.beq el el' && b9z P el && a2z P el (xs.length + l.length) with
       | false => rw [hb] at hk; cases hk
       | true =>
        rw [hb] at hk
        simp only [f5U] at hb
        have := f5T hb.1.1
        subst this
        exact b8f h (hd d hdst) (hF _ (a00 hv (by simp [a07, ho, hc]) hdst)) ho hdst hc ha ht hel hu' hes hex hg hz hb.1.2 hb.2 hk
      ·cases hk
     ·rename_i el e' l hel hu' hes hex
      split at hk
      ·rename_i z hz
       cases hb : b9z P el && a2z P el l.length with
       | false => rw [hb] at hk; cases hk
       | true =>
        rw [hb] at hk
        simp only [f5U] at hb
        have hs' := h.evu s
        rw [hes] at hs'
        exact a6z h (hd d hdst) (hF _ (a00 hv (by simp [a07, ho, hc]) hdst)) ho hdst hc ha ht hel hu' (b2f hs' rfl ⟨_, rfl⟩) hex hz hb.1 hb.2 true (mem0 := st.mem) (fun _ _ hg => hg) hk
      ·cases hk
     ·cases hk
    | true =>
     rw [show (!Nat.beq T T') = false by rw [hT]; rfl] at hk
     simp only [cond_false] at hk
     split at hk
     ·rename_i el k1 n k2 m hel hes hex
      split at hk
      ·rename_i c1 c2 g1 g2
       cases hb : (a5g P el).isSome && Nat.beq (a0d P el) 1 && Nat.blt 0 n && Nat.blt 0 m && Nat.ble n c1.length && Nat.ble m c2.length && a2z P el (n + m) && a3w (c1.take n ++ c2.take m) with
       | false => rw [hb] at hk; cases hk
       | true =>
        rw [hb] at hk
        simp only [f5U] at hb
        obtain ⟨⟨⟨⟨⟨⟨⟨b1, b2⟩, b3⟩, b4⟩, b5⟩, b6⟩, b7⟩, b8⟩ := hb
        exact b8g h (hd d hdst) (hF _ (a00 hv (by simp [a07, ho, hc]) hdst)) ho hdst hc ha ht (f5T hT) hel b1 hes hex g1 g2 (f5T b2) (f54 b3) (f54 b4) (f54 b5) (f54 b6) b7 b8 hk
      ·cases hk
     ·rename_i el hel _
      cases hz : (a5g P el).isNone with
      | true => rw [hz] at hk; cases hk
      | false =>
       rw [hz] at hk
       simp only [cond_false] at hk
       split at hk
       ·rename_i ys hys
        exact c42 h (hd d hdst) (hF _ (a00 hv (by simp [a07, ho, hc]) hdst)) ho hdst hc ha ht (f5T hT) hel hz hys hk
       ·cases hk
     ·cases hk
   ·cases hk
  ·rename_i hc
   split at hk
   ·rename_i x y T T' ha ht
    split at hk
    ·rename_i el key hel hx
     split at hk
     ·rename_i el' xs ys hg hy
      cases hb : Nat.beq el el' && Nat.beq (a0d P el) 1 with
      | false => rw [hb] at hk; cases hk
      | true =>
       rw [hb] at hk
       simp only [f5U] at hb
       have := f5T hb.1
       subst this
       exact d2x h hd ho hc ha ht hel hx hg hy (f5T hb.2) hk
     ·cases hk
    ·cases hk
   ·cases hk
  ·rename_i f hc
   split at hk
   ·rename_i fn caps hf
    have hfv : a.eval f = fnW (a2h fn caps) fn (caps.map (b5M env)) := by have := h.evu f; rw [hf] at this; exact this
    split at hk
    ·rename_i v hext
     obtain ⟨rfl, u, hu1, hu2⟩ := d40 (S := Sof P B M0 n0 env st.mem w) (env := env) (w := w) (vs := c.args.map a.eval) hext (by
      rw [Array.toList_map]
      refine a0B.of_get (by simp) fun j y v hy hv => ?_
      rw [List.getElem?_map] at hy hv
      cases hj : c.args.toList[j]? with
      | none => rw [hj] at hy; cases hy
      | some x =>
       rw [hj] at hy hv
       simp only [f6b, f5S] at hy hv
       subst hy hv
       exact h.evu x)
     rw [d2A, c40] at hfv
     refine a0X (v := u) (w' := w) ?_ ⟨_, _, h.put hd (a0w.of (x := .c v) hu2), hk⟩
     simp only [execOp, ho, resolve, hc, hfv, Deferred.ofValue, f5Y, f5Z, f5V, invoke]
     simpa using hu1
    ·have hargs : ∀ mem, Rel P N n0 B M0 w0 F e0 env { st with mem } a w → a0B (a0G P env (Sof P B M0 n0 env mem w) w) (c.args.toList.zipIdx.map (fun (x, i) => match c.argTypes[i]? with | some T => coe P T (evu st x) | none => evu st x)) (c.args.toList.map a.eval) := by
      intro mem hm
      refine a0B.of_get (by simp) fun j y v hy hv => ?_
      simp only [List.getElem?_map, List.getElem?_zipIdx, Nat.zero_add] at hy hv
      cases hj : c.args.toList[j]? with
      | none => rw [hj] at hv; cases hv
      | some x =>
       rw [hj] at hy hv
       simp only [f6b, f5S] at hy hv
       subst hy hv
       have hx := hm.evu x
       rw [a8V] at hx
       split
       ·exact c1T hx
       ·exact hx
     have hent : a07 o = true := by simp [a07, ho, hc]
     cases hbd : a2h fn caps with
     | false =>
      rw [e32 hbd, c41 hbd, AM.cond_false rfl, AM.cond_false rfl] at hk
      rw [hbd, c40] at hfv
      refine b5e hcl (vs := c.args.map a.eval ++ (caps.map (b5M env)).toArray) (fun k h1 h2 => hF k (by unfold a0I; rw [hv, cond_false rfl, hent, cond_true rfl, Nat.ble_eq_true_of_le h1, show Nat.blt k _ = true from Nat.ble_eq_true_of_le h2]; rfl)) h hd ?_ ?_ hk
      ·intro hent
       simp only [execOp, ho, resolve, hc, hfv, Deferred.ofValue, f5Y, f5Z, f5V, invoke]
       simpa using a81 hent
      ·intro mem hm
       simp only [Array.toList_append, Array.toList_map]
       exact a0B.append (hargs mem hm) (b8n fun x _ => rfl)
     | true =>
      rw [e32 hbd, c41 hbd, AM.cond_true rfl, AM.cond_true rfl] at hk
      rw [hbd, e0D] at hfv
      refine b5e hcl (vs := (caps.map (b5M env)).toArray ++ c.args.map a.eval) (fun k h1 h2 => hF k (by unfold a0I; rw [hv, cond_false rfl, hent, cond_true rfl, Nat.ble_eq_true_of_le h1, show Nat.blt k _ = true from Nat.ble_eq_true_of_le h2]; rfl)) h hd ?_ ?_ hk
      ·exact fun hent => d41 ho hc hfv hent
      ·intro mem hm
       simp only [Array.toList_append, Array.toList_map]
       exact a0B.append (b8n fun x _ => rfl) (hargs mem hm)
   ·cases hk
  ·cases hk
 ·cases hk
end
end Go.AM

