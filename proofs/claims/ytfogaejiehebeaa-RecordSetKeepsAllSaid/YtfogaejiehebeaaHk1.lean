/- A part of a proof of a law: lemmas. Conditions: those of each lemma. -/
import Derived.Test.YtfogaejiehebeaaAm3
import Derived.Below
import Derived.Lib.Join
import Derived.Lib.LaidTab
import Derived.LaidLaws
import Derived.Lib.Split
import Derived.Lib.SplitLaws
import Derived.Lib.ItoaNum
import Derived.Lib.AtoiAll
import Derived.Lib.ConvBytes
import Derived.Sort.Row
import Derived.StillTail
import Derived.Test.YtfogaejiehebeaaChecked
import Derived.KernelRfl
set_option linter.all false
set_option maxRecDepth 100000
namespace Go.AM
open Go
end Go.AM

namespace Go.AM
open Go Go.RowKit
section
variable {P : Program}
end
end Go.AM

namespace Go.AM
open Go
theorem b73.mono {P : Program} {T T' : CK → D → Prop} {e : TypeId} {x : D} (h : ∀ k d, T k d → T' k d) (hx : b73 P T e x) : b73 P T' e x := by
 unfold b73 at hx ⊢
 split
 ·rename_i ha
  rw [if_pos ha] at hx
  obtain ⟨cs, h1, h2⟩ := hx
  exact ⟨cs, h1, h2.mono fun k d _ => h k d⟩
 ·rename_i ha
  rw [if_neg ha] at hx
  obtain ⟨k, h1, h2⟩ := hx
  exact ⟨k, h1, h k x h2⟩
theorem TyK.succ {P : Program} : ∀ {m : Nat} {k : CK} {d : D}, TyK P m k d → TyK P (m + 1) k d
 | 0, _, _, h => h.elim
 | m + 1, k, d, h => by
  cases k with
  | sl e =>
   obtain ⟨nl, xs, h1, h2, h3, h4⟩ := h
   exact ⟨nl, xs, h1, h2, h3, fun x hx => (h4 x hx).mono fun k d => TyK.succ⟩
  | _ => exact h
theorem TyK.mono {P : Program} {m m' : Nat} {k : CK} {d : D} (hm : m ≤ m') (h : TyK P m k d) : TyK P m' k d := by
 induction hm with
 | refl => exact h
 | step _ ih => exact ih.succ
section
variable {H : Type} {enc : TypeId × Value → H} {P : Program} {w : World} {spare : Nat → Bool} {held : Bool} {Ts : List TypeId}
theorem RT.mono {m m' : Nat} (hm : m ≤ m') {kd : CK × D} {v : Value} (h : RT P w m kd v) : RT P w m' kd v := ⟨h.1.mono hm, h.2⟩
variable {bk : DataW H → Nat} {bkA : List (DataW H) → Nat}
end
end Go.AM

namespace Go.AM
open Go
section
variable {P : Program} {W : World}
def GAt (W : World) (g : Nat) (ps : List (Value → Prop)) : Prop := ∃ cur T fr, W.heap[g]? = some (.cells cur T fr) ∧ cur.size = ps.length ∧ ∀ (o : Nat) p v, ps[o]? = some p → cur[o]? = some v → p v
theorem d6g {cur : Array Value} {p : Value → Prop} {v0 : Value} (h : cur = #[v0]) (hp : p v0) : ∀ (o : Nat) q v, ([p] : List (Value → Prop))[o]? = some q → cur[o]? = some v → q v := by
 intro o q v hq hv
 subst h
 cases o with
 | zero => simp at hq hv; subst hq hv; exact hp
 | succ o => simp at hv
theorem e04 {g t : Nat} {zero : Array Value} (hs : W.ShapedOpen P) (hg : g < P.globals.size) (hrow : (((begin P (fun _ _ => 0) default).world.heap[g]?).bind Obj.row?) = some (zero, t)) (hz : zero.size = 1) (hb : P.buildable t = true)
  (hct : P.cellTypes P.depth t = some [t]) (hu : P.underlying t = some (.int .i64)) : GAt W g [c8a] := by
 obtain ⟨cs, h1, h2, h3⟩ := hs.1 g zero t hg hrow
 obtain ⟨ts, q1, _, q2⟩ := h3 hb
 rw [hct] at q1
 obtain rfl := Option.some.inj q1
 have hsz : cs.size = 1 := h2.trans hz
 have hcl : 0 < cs.size := by omega
 obtain ⟨u, q3, q4⟩ := q2 0 cs[0] (Array.getElem?_eq_getElem hcl)
 obtain rfl : t = u := by simpa using q3
 have hv : c8a cs[0] := by
  unfold Cell.ok at q4
  rw [hu] at q4
  generalize cs[0] = v at q4 ⊢
  cases v with
  | int k' n => exact ⟨n, by rw [q4.1]⟩
  | _ => exact False.elim q4
 refine ⟨cs, t, _, h1, hsz, d6g (v0 := cs[0]) ?_ hv⟩
 apply Array.ext
 ·simpa using hsz
 ·intro i hi hi'; simp at hi'; subst hi'; rfl
end
end Go.AM

namespace Go.AM
open Go Go.RowKit
theorem e05 {α : Type} {k0 k : Nat} {x o : α} (h : get [(k0, x)] k = some o) : k = k0 ∧ o = x := by
 simp only [get, a0p] at h
 by_cases hk : k0 = k
 ·rw [cond_true (by simpa using hk)] at h; exact ⟨hk.symm, (Option.some.inj h).symm⟩
 ·rw [cond_false (by simpa using hk)] at h; cases h
section
variable {P : Program}
open Go.Sort in
end
end Go.AM

set_option linter.unusedVariables false
namespace Go.AM
open Go

theorem a17 {α β : Type} {R : α → β → Prop} : ∀ {xs ys : List α} {zs : List β}, All2 R (xs ++ ys) zs → ∃ z1 z2, zs = z1 ++ z2 ∧ All2 R xs z1 ∧ All2 R ys z2
 | [], ys, zs, h => ⟨[], zs, rfl, trivial, h⟩
 | x :: xs, ys, [], h => h.elim
 | x :: xs, ys, z :: zs, h => by
  obtain ⟨z1, z2, rfl, h1, h2⟩ := a17 (xs := xs) h.2
  exact ⟨z :: z1, z2, rfl, ⟨h.1, h1⟩, h2⟩
section
variable {P : Program}
theorem c5r {env : Env} {S S' : a0B} {w : World} {s : a1x} {e : TypeId} {ex n : Bool} {xs : List D} (hk : a0C w S w S') (h : a0w P env S w s (.row e ex n xs)) (hst : n = false → ∀ o, o < xs.length * a0a P e → S' s.blk o) : a1h P w S' (.sl e) (.l n xs) s.hdr := by
 obtain ⟨h0, ⟨rfl, rfl, h1⟩ | ⟨rfl, hb, cap, cur, h1, h2, h3, h4, h5, h6⟩⟩ := h
 ·rw [h1]; exact .nil e _ rfl rfl
 ·rw [h1]
  refine .sl e (.l false xs) s.blk 0 cap (fun i j => (w.cell? ⟨s.blk, i * a0a P e + j, none⟩).getD undef) rfl h0 h3 h4 ?_ ?_
  ·intro i hi j hj
   obtain ⟨k, hk⟩ : ∃ k, (a0f P e)[j]? = some k := ⟨_, f3c hj⟩
   obtain ⟨u, hu, _⟩ := h6 i j k hi hk
   have hc := h2.cell hu
   rw [Nat.zero_add, hc]
   exact ⟨hst rfl _ (a3C hi (h0 ▸ hj)), rfl⟩
  ·intro i hi j k hkk
   obtain ⟨u, hu, hr⟩ := h6 i j k hi hkk
   rw [h2.cell hu]
   exact hr.mono hk
theorem e06 {env : Env} {S : a0B} {w : World} {s : a1x} {e : TypeId} {ex : Bool} {xs : List D} (h : a0w P env S w s (.row e ex false xs)) : s.blk < w.heap.size := by
 obtain ⟨_, ⟨hn, _⟩ | ⟨_, _, cap, cur, _, h2, _⟩⟩ := h
 ·cases hn
 ·exact h2.lt
theorem c1j {f : FuncId} {args : List V} {mem : AL Obj} {cs : List C} {eD eK kD kK : Nat} {nD nK : Bool} {xD xK : List D} (hcs : ∀ c ∈ cs, a2C c = []) (hne : kK ≠ kD)
  (h : a2c P f args mem ([.g (cs ++ [.o kD, .o kK])], [(kK, .row eK true nK xK), (kD, .row eD true nD xD)])) : a2c P f args mem ([.g (cs ++ [.sl eD nD xD, .kp kK])], [(kK, .row eK true nK xK)]) := by
 intro B env w vs hpre hall
 refine (h B env w vs hpre hall).mono ?_
 rintro en w' ⟨v, he, env', M, hv⟩
 have gK : get [(kK, Obj.row eK true nK xK), (kD, Obj.row eD true nD xD)] kK = some (.row eK true nK xK) := by simp [get, a0p]
 have gD : get [(kK, Obj.row eK true nK xK), (kD, Obj.row eD true nD xD)] kD = some (.row eD true nD xD) := by simp [get, a0p, hne]
 have hsub : ∀ k o, get [(kK, Obj.row eK true nK xK)] k = some o → k = kK ∧ o = .row eK true nK xK := fun k o hg => by
  simp only [get, a0p] at hg
  by_cases hk : kK = k
  ·rw [cond_true (by simpa using hk)] at hg; cases hg; exact ⟨hk.symm, rfl⟩
  ·rw [cond_false (by simpa using hk)] at hg; cases hg
 have hk : a0C w' (Sof P B (a8u P env mem) w.heap.size env' [(kK, Obj.row eK true nK xK), (kD, Obj.row eD true nD xD)] w') w' (Sof P B (a8u P env mem) w.heap.size env' [(kK, Obj.row eK true nK xK)] w') := by
  intro b o u hS hc
  refine ⟨⟨hS.1, hS.2.1, fun k ob hg hm => ?_⟩, hc⟩
  obtain ⟨rfl, rfl⟩ := hsub k ob hg
  exact hS.2.2 _ _ gK hm
 obtain ⟨us, rfl, hall2⟩ := hv
 obtain ⟨z1, z2, hz, a1, a2⟩ := a17 hall2
 match z2, a2 with
 | [u1, u2], ⟨b1, b2, _⟩ =>
 refine ⟨_, he, env', ⟨M.hn0, fun k o hg => ?_, fun k k' o o' hg hg' _ _ hkk => ?_, fun k o b x hg hm => ?_, fun k e ex xs hg o ho => ?_, M.ch, M.bb, M.fx, M.gi⟩, us, rfl, ?_⟩
 ·obtain ⟨rfl, rfl⟩ := hsub k o hg
  exact a12 hk (fun _ => rfl) (M.ob k _ gK) true
 ·obtain ⟨rfl, _⟩ := hsub k o hg
  obtain ⟨rfl, _⟩ := hsub k' o' hg'
  exact absurd rfl hkk
 ·obtain ⟨rfl, rfl⟩ := hsub k o hg
  exact M.mu k _ b x gK hm
 ·obtain ⟨rfl, he'⟩ := hsub k _ hg
  cases he'
  exact M.pr k _ _ _ gK o ho
 ·rw [hz]
  refine All2.append (a1.mono fun x y hx hxy => a0m.mono hk (fun k hk' => by simp [hcs x hx] at hk') hxy) ⟨?_, b2, trivial⟩
  have hu : u1 = (env' kD).hdr := b1
  show a1h P w' _ (.sl eD) (.l nD xD) u1
  rw [hu]
  refine c5r hk (M.ob kD _ gD) fun hn o ho => ⟨?_, ?_, fun k ob hg hm => ?_⟩
  ·subst hn
   exact M.pr kD _ _ _ gD o ho
  ·subst hn
   exact e06 (M.ob kD _ gD)
  ·obtain ⟨rfl, rfl⟩ := hsub k ob hg
   subst hn
   obtain ⟨m1, m2, _⟩ := hm
   exact M.ds k kD _ _ gK gD m1 rfl hne m2.symm
theorem b83 {f : FuncId} {args : List V} {mem : AL Obj} {cs : List C} {eK kK : Nat} {nK : Bool} {xK : List D}
  (h : a2c P f args mem ([.g (cs ++ [.o kK])], [(kK, .row eK true nK xK)])) : a2c P f args mem ([.g (cs ++ [.kp kK])], [(kK, .row eK true nK xK)]) := by
 intro B env w vs hpre hall
 refine (h B env w vs hpre hall).mono ?_
 rintro en w' ⟨v, he, env', M, hv⟩
 obtain ⟨us, rfl, hall2⟩ := hv
 obtain ⟨z1, z2, hz, a1, a2⟩ := a17 hall2
 match z2, a2 with
 | [u1], ⟨b1, _⟩ => exact ⟨_, he, env', M, us, rfl, by rw [hz]; exact All2.append a1 ⟨b1, trivial⟩⟩
theorem b2n {f : FuncId} {args : List V} {mem : AL Obj} {cs : List C} {e k k' : Nat} {n : Bool} {xs : List D} (hcs : ∀ c ∈ cs, a2C c = []) (hk' : mem.length ≤ k')
  (h : a2c P f args mem ([.g (cs ++ [.kp k])], [(k, .row e true n xs)])) : a2c P f args mem ([.g (cs ++ [.kp k'])], [(k', .row e true n xs)]) := by
 intro B env w vs hpre hall
 refine (h B env w vs hpre hall).mono ?_
 rintro en w' ⟨v, he, env', M, hv⟩
 have g1 : get [(k, Obj.row e true n xs)] k = some (.row e true n xs) := by simp [get, a0p]
 have hu : ∀ i, i ≠ k' → upd env' k' (env' k) i = env' i := fun i hi => by simp [upd, hi]
 have hu' : upd env' k' (env' k) k' = env' k := by simp [upd]
 have hsub : ∀ i o, get [(k', Obj.row e true n xs)] i = some o → i = k' ∧ o = .row e true n xs := fun i o hg => e05 hg
 have hk : a0C w' (Sof P B (a8u P env mem) w.heap.size env' [(k, Obj.row e true n xs)] w') w' (Sof P B (a8u P env mem) w.heap.size (upd env' k' (env' k)) [(k', Obj.row e true n xs)] w') := by
  intro b o u hS hc
  refine ⟨⟨hS.1, hS.2.1, fun i ob hg hm => ?_⟩, hc⟩
  obtain ⟨rfl, rfl⟩ := hsub i ob hg
  rw [hu'] at hm
  exact hS.2.2 _ _ g1 hm
 obtain ⟨us, rfl, hall2⟩ := hv
 obtain ⟨z1, z2, hz, a1, a2⟩ := a17 hall2
 match z2, a2 with
 | [u1], ⟨b1, _⟩ =>
 refine ⟨_, he, upd env' k' (env' k), ⟨M.hn0, fun i o hg => ?_, fun i i' o o' hg hg' _ _ hii => ?_, fun i o b x hg hm => ?_, fun i e ex ys hg o ho => ?_, M.ch, M.bb, fun i hi => ?_, M.gi⟩, us, rfl, ?_⟩
 ·obtain ⟨rfl, rfl⟩ := hsub i o hg
  rw [hu']
  exact a12 hk (fun _ => rfl) (M.ob k _ g1) true
 ·obtain ⟨rfl, _⟩ := hsub i o hg
  obtain ⟨rfl, _⟩ := hsub i' o' hg'
  exact absurd rfl hii
 ·obtain ⟨rfl, rfl⟩ := hsub i o hg
  rw [hu'] at hm
  exact M.mu k _ b x g1 hm
 ·obtain ⟨rfl, he'⟩ := hsub i _ hg
  cases he'
  rw [hu']
  exact M.pr k _ _ _ g1 o ho
 ·rw [hu i (by omega)]
  exact M.fx i hi
 ·rw [hz]
  refine All2.append (a1.mono fun x y hx hxy => a0m.mono hk (fun k hk' => by simp [hcs x hx] at hk') hxy) ⟨?_, trivial⟩
  show u1 = (upd env' k' (env' k) k').hdr
  rw [hu']
  exact b1
end
end Go.AM

set_option linter.unusedVariables false
namespace Go.AM
open Go
inductive d6h (R : St → Ex × St → Prop) : St → Ex × St → Prop
 | stop {st out i} : R st (.exit i, out) → d6h R st (.exit i, out)
 | step {st st' r} : R st (.normal, st') → d6h R st' r → d6h R st r
inductive c8V (R : St → Ex × St → Prop) : Nat → St → Ex × St → Prop
 | stop {n st out i} : R st (.exit i, out) → c8V R n st (.exit i, out)
 | step {n st st' r} : R st (.normal, st') → c8V R n st' r → c8V R (n + 1) st r
theorem d6h.num {R : St → Ex × St → Prop} {st : St} {r : Ex × St} (h : d6h R st r) : ∃ n, c8V R n st r := by
 induction h with
 | stop h => exact ⟨0, .stop h⟩
 | step h _ ih => obtain ⟨n, hn⟩ := ih; exact ⟨n + 1, .step h hn⟩
section
variable {P : Program} {N n0 kb : Nat} {F : Nat → Prop} {B M0 : a0B} {w0 : World} {e0 : a4s} {env : Env} {st : St} {a : Act} {w : World}
theorem c8W (h : Rel P N n0 B M0 w0 F e0 env st a w) {key key0 e k q : Nat} {c : C} {xs : List D} (hg : get st.mem key0 = some (.krow e k q c xs)) (hkey : ¬ F key) :
  Rel P N n0 B M0 w0 F e0 (upd env key (env key0)) (a0o key (.krow e k q (inval key c) xs) { st with mem := del st.mem key0 }) a w := by
 have hsub : ∀ k ob, get (del st.mem key0) k = some ob → get st.mem k = some ob := fun k ob hk => (a0A k ob hk).2
 refine Rel.new h hsub key hkey _ _ (fun _ _ => False) (Chg.refl _ w) (fun _ _ hf => hf.elim) (fun _ _ _ _ _ => rfl) ?_ ?_ ?_ ?_
 ·intro hk
  exact b1V (o := .krow e k q c xs) hk (fun k hk => by simp [upd, hk]) (fun _ => rfl) (h.ob _ _ hg)
 ·intro b x hm
  exact .inr ⟨key0, _, hg, a8I (key := key) (o := .krow e k q c xs) |>.1 hm⟩
 ·intro hr k ob _ hk hrk
  obtain ⟨h1, h2⟩ := a0A k ob hk
  exact h.ds k key0 ob _ h2 hg hrk trivial h1
 ·intro e' ex' xs' he x hx
  cases he
def f1h (t key0 ix : Nat) (st : St) : St :=
 match get st.mem key0 with
 | some (.box cs) => (match cs[ix]? with
  | some (.o key) => (match get st.mem key with
   | some (.krow e k q c xs) => bif Nat.beq key t || Nat.beq key0 key || Nat.beq key0 t then st else
    { a0o t (.krow e k q (inval t c) xs) { st with mem := del st.mem key } with mem := set (a0o t (.krow e k q (inval t c) xs) { st with mem := del st.mem key }).mem key0 (c0N (get (a0o t (.krow e k q (inval t c) xs) { st with mem := del st.mem key }).mem key0) ix (.o t)) }
   | _ => st)
  | _ => st)
 | _ => st
theorem c5s (h : Rel P N n0 B M0 w0 F e0 env st a w) (t key0 ix : Nat) (hkey : ¬ F t) : ∃ env', Rel P N n0 B M0 w0 F e0 env' (f1h t key0 ix st) a w := by
 unfold f1h
 split
 ·rename_i cs hb
  split
  ·rename_i key hcell
   split
   ·rename_i e k q c xs hrow
    cases hq : Nat.beq key t || Nat.beq key0 key || Nat.beq key0 t with
    | true => exact ⟨env, h⟩
    | false =>
     simp only [Bool.or_eq_false_iff, a0p, decide_eq_false_iff_not] at hq
     obtain ⟨⟨n1, n2⟩, n3⟩ := hq
     have hm := c8W h hrow hkey
     have hg : get (a0o t (.krow e k q (inval t c) xs) { st with mem := del st.mem key }).mem key0 = some (.box (cs.map (inval t))) := by
      simp only [a0o, a0U, a06, a3Q, if_neg n3, if_neg n2, hb, f3f, a2G]
     simp only [cond_false]
     rw [hg]
     refine ⟨_, b5Q hm hg (c := .o key) ?_ (fun v hv => ?_) fun _ _ _ => trivial⟩
     ·rw [List.getElem?_map, hcell]
      simp only [f3f, inval, a0p, decide_eq_false n1, cond_false]
     ·show v = (upd env t (env key) t).hdr
      have hv : v = (upd env t (env key) key).hdr := hv
      rw [hv]
      simp [upd, n1]
   ·exact ⟨env, h⟩
  ·exact ⟨env, h⟩
 ·exact ⟨env, h⟩
theorem c8X (h : Rel P N n0 B M0 w0 F e0 env st a w) {key e i q : Nat} {xs : List D} {c c' : C} (hg : get st.mem key = some (.krow e i q c xs)) (hcc : ∀ v, a0m P env (Sof P B M0 n0 env st.mem w) w c v → a0m P env (Sof P B M0 n0 env st.mem w) w c' v) :
  Rel P N n0 B M0 w0 F e0 env { st with mem := set st.mem key (.krow e i q c' xs) } a w := by
 have hget : ∀ {k ob}, get (set st.mem key (.krow e i q c' xs)) k = some ob → ∃ ob0, get st.mem k = some ob0 ∧ (k ≠ key → ob = ob0) ∧ (k = key → ob0 = .krow e i q c xs ∧ ob = .krow e i q c' xs) := by
  intro k ob hk
  rw [a0U] at hk
  by_cases he : k = key
  ·rw [if_pos he] at hk
   cases hk
   exact ⟨.krow e i q c xs, by rw [he]; exact hg, fun hn => absurd he hn, fun _ => ⟨rfl, rfl⟩⟩
  ·rw [if_neg he] at hk
   exact ⟨ob, hk, fun _ => rfl, fun hh => absurd hh he⟩
 have hmut : ∀ {k ob ob0 : _} {b x : Nat}, get (set st.mem key (.krow e i q c' xs)) k = some ob → get st.mem k = some ob0 → a2b P (env k) ob b x → a2b P (env k) ob0 b x := by
  intro k ob ob0 b x hk h0 hm
  obtain ⟨ob1, h1, h2, h3⟩ := hget hk
  rw [h0] at h1
  cases h1
  by_cases he : k = key
  ·obtain ⟨rfl, rfl⟩ := h3 he
   exact hm
  ·rw [h2 he] at hm; exact hm
 have hk : a0C w (Sof P B M0 n0 env st.mem w) w (Sof P B M0 n0 env (set st.mem key (.krow e i q c' xs)) w) := fun b o v hS hv => ⟨⟨hS.1, hS.2.1, fun k ob hgk hmu => by
  obtain ⟨ob0, h1, _⟩ := hget hgk
  exact hS.2.2 k ob0 h1 (hmut hgk h1 hmu)⟩, hv⟩
 refine ⟨h.size, h.dfr, h.hn0, fun t x hx => a0n.mono hk (fun _ => rfl) (h.tm t x hx), ?_, ?_, ?_, ?_, h.ch, h.bb, h.fx, h.gi⟩
 ·intro k ob hgk
  obtain ⟨ob0, h1, h2, h3⟩ := hget hgk
  by_cases he : k = key
  ·obtain ⟨rfl, rfl⟩ := h3 he
   exact a5a hk rfl rfl rfl (fun v hv => a0m.mono hk (fun _ _ => rfl) (hcc v hv)) rfl (h.ob k _ h1)
  ·rw [h2 he]
   exact a1k hk (fun _ => rfl) (h.ob k ob0 h1)
 ·intro k k' o o' hgk hgk' hr hr' hne
  obtain ⟨ob0, h1, h2, h3⟩ := hget hgk
  obtain ⟨ob0', h1', h2', h3'⟩ := hget hgk'
  refine h.ds k k' ob0 ob0' h1 h1' ?_ ?_ hne
  ·by_cases he : k = key
   ·rw [(h3 he).1]; trivial
   ·rw [← h2 he]; exact hr
  ·by_cases he : k' = key
   ·rw [(h3' he).1]; trivial
   ·rw [← h2' he]; exact hr'
 ·intro k o b x hgk hmu
  obtain ⟨ob0, h1, _⟩ := hget hgk
  exact h.mu k ob0 b x h1 (hmut hgk h1 hmu)
 ·intro k e' ex ys hgk
  obtain ⟨ob0, h1, h2, h3⟩ := hget hgk
  by_cases he : k = key
  ·obtain ⟨_, h4⟩ := h3 he; cases h4
  ·have := h2 he
   subst this
   exact h.pr k e' ex ys h1
def e07 (t key0 : Nat) (st : St) : St :=
 match get st.mem key0 with
 | some (.krow e i q (.kp key) xs) => (match get st.mem key with
  | some (.row e' ex nl ys) => bif Nat.beq key t || Nat.beq key0 key || Nat.beq key0 t then st else
   { a0o t (.row e' ex nl ys) { st with mem := del st.mem key } with mem := set (a0o t (.row e' ex nl ys) { st with mem := del st.mem key }).mem key0 (.krow e i q (.kp t) xs) }
  | _ => st)
 | _ => st
theorem c1k (h : Rel P N n0 B M0 w0 F e0 env st a w) (t key0 : Nat) (hkey : ¬ F t) : ∃ env', Rel P N n0 B M0 w0 F e0 env' (e07 t key0 st) a w := by
 unfold e07
 split
 ·rename_i e i q key xs hb
  split
  ·rename_i e' ex nl ys hrow
   cases hq : Nat.beq key t || Nat.beq key0 key || Nat.beq key0 t with
   | true => exact ⟨env, h⟩
   | false =>
    simp only [Bool.or_eq_false_iff, a0p, decide_eq_false_iff_not] at hq
    obtain ⟨⟨n1, n2⟩, n3⟩ := hq
    have hm := b5P h hrow hkey
    have hg : get (a0o t (.row e' ex nl ys) { st with mem := del st.mem key }).mem key0 = some (.krow e i q (.kp key) xs) := by
     simp only [a0o, a0U, a06, a3Q, if_neg n3, if_neg n2, hb, f3f, a2G, inval, a0p, decide_eq_false n1, cond_false]
    simp only [cond_false]
    refine ⟨_, c8X hm hg (fun v hv => ?_)⟩
    show v = (upd env t (env key) t).hdr
    have hv : v = (upd env t (env key) key).hdr := hv
    rw [hv]
    simp [upd, n1]
  ·exact ⟨env, h⟩
 ·exact ⟨env, h⟩
theorem b84 (h : Rel P N n0 B M0 w0 F e0 env st a w) {key e i q : Nat} {xs xs' : List D} {c : C} (hg : get st.mem key = some (.krow e i q c xs)) (hl : xs'.length = xs.length) (hx : ∀ a j, ¬ (a = i ∧ j = q) → elD P e (xs'.getD a (.i 0)) j = elD P e (xs.getD a (.i 0)) j) (hcc : ∀ t v, (a0f P e)[q]? = some t → a0m P env (Sof P B M0 n0 env st.mem w) w c v → a1h P w (Sof P B M0 n0 env st.mem w) t (elD P e (xs'.getD i (.i 0)) q) v) :
  Rel P N n0 B M0 w0 F e0 env { st with mem := set st.mem key (.row e true false xs') } a w := by
 have hget : ∀ {k ob}, get (set st.mem key (.row e true false xs')) k = some ob → ∃ ob0, get st.mem k = some ob0 ∧ (k ≠ key → ob = ob0) ∧ (k = key → ob0 = .krow e i q c xs ∧ ob = .row e true false xs') := by
  intro k ob hk
  rw [a0U] at hk
  by_cases he : k = key
  ·rw [if_pos he] at hk
   cases hk
   exact ⟨.krow e i q c xs, by rw [he]; exact hg, fun hn => absurd he hn, fun _ => ⟨rfl, rfl⟩⟩
  ·rw [if_neg he] at hk
   exact ⟨ob, hk, fun _ => rfl, fun hh => absurd hh he⟩
 have hmut : ∀ {k ob ob0 : _} {b x : Nat}, get (set st.mem key (.row e true false xs')) k = some ob → get st.mem k = some ob0 → a2b P (env k) ob b x → a2b P (env k) ob0 b x := by
  intro k ob ob0 b x hk h0 hm
  obtain ⟨ob1, h1, h2, h3⟩ := hget hk
  rw [h0] at h1
  cases h1
  by_cases he : k = key
  ·obtain ⟨rfl, rfl⟩ := h3 he
   exact hm.2.1
  ·rw [h2 he] at hm; exact hm
 have hk : a0C w (Sof P B M0 n0 env st.mem w) w (Sof P B M0 n0 env (set st.mem key (.row e true false xs')) w) := fun b o v hS hv => ⟨⟨hS.1, hS.2.1, fun k ob hgk hmu => by
  obtain ⟨ob0, h1, _⟩ := hget hgk
  exact hS.2.2 k ob0 h1 (hmut hgk h1 hmu)⟩, hv⟩
 refine ⟨h.size, h.dfr, h.hn0, fun t x hx => a0n.mono hk (fun _ => rfl) (h.tm t x hx), ?_, ?_, ?_, ?_, h.ch, h.bb, h.fx, h.gi⟩
 ·intro k ob hgk
  obtain ⟨ob0, h1, h2, h3⟩ := hget hgk
  by_cases he : k = key
  ·obtain ⟨rfl, rfl⟩ := h3 he
   obtain ⟨a1, a2, a3, a4, cap, cur, a5, a6, a7, a8, a9, ⟨u, b1, b2⟩, b3⟩ := h.ob k _ h1
   refine ⟨a1, .inr ⟨rfl, a2, cap, cur, by rw [hl]; exact a5, a6, by omega, a8, a9, fun m j t hm ht => ?_⟩⟩
   by_cases hmj : m = i ∧ j = q
   ·obtain ⟨rfl, rfl⟩ := hmj
    exact ⟨u, b1, (hcc t u ht b2).mono hk⟩
   ·obtain ⟨v, c1, c2⟩ := b3 m j t (by omega) ht hmj
    exact ⟨v, c1, by rw [hx m j hmj]; exact c2.mono hk⟩
  ·rw [h2 he]
   exact a1k hk (fun _ => rfl) (h.ob k ob0 h1)
 ·intro k k' o o' hgk hgk' hr hr' hne
  obtain ⟨ob0, h1, h2, h3⟩ := hget hgk
  obtain ⟨ob0', h1', h2', h3'⟩ := hget hgk'
  refine h.ds k k' ob0 ob0' h1 h1' ?_ ?_ hne
  ·by_cases he : k = key
   ·rw [(h3 he).1]; trivial
   ·rw [← h2 he]; exact hr
  ·by_cases he : k' = key
   ·rw [(h3' he).1]; trivial
   ·rw [← h2' he]; exact hr'
 ·intro k o b x hgk hmu
  obtain ⟨ob0, h1, _⟩ := hget hgk
  exact h.mu k ob0 b x h1 (hmut hgk h1 hmu)
 ·intro k e' ex ys hgk
  obtain ⟨ob0, h1, h2, h3⟩ := hget hgk
  by_cases he : k = key
  ·obtain ⟨rfl, h4⟩ := h3 he
   intro o ho
   exact (h.mu k _ (env k).blk o h1 rfl).elim (fun q => .inr (.inr q)) (fun q => .inr (.inl q))
  ·have := h2 he
   subst this
   exact h.pr k e' ex ys h1
theorem d6i (h : Rel P N n0 B M0 w0 F e0 env st a w) {key kK e eK i q : Nat} {xs xs' ys : List D} {nK ex : Bool} (hne : key ≠ kK) (hg : get st.mem key = some (.krow e i q (.kp kK) xs)) (hgK : get st.mem kK = some (.row eK ex nK ys)) (hkq : (a0f P e)[q]? = some (.sl eK))
  (hl : xs'.length = xs.length) (hx : ∀ a j, ¬ (a = i ∧ j = q) → elD P e (xs'.getD a (.i 0)) j = elD P e (xs.getD a (.i 0)) j) (hq : elD P e (xs'.getD i (.i 0)) q = .l nK ys) :
  Rel P N n0 B M0 w0 F e0 env { st with mem := set (set st.mem kK (.row eK false nK ys)) key (.row e true false xs') } a w := by
 have h1 : Rel P N n0 B M0 w0 F e0 env { st with mem := set st.mem kK (.row eK false nK ys) } a w := h.share1 kK hgK
 have g1 : get (set st.mem kK (.row eK false nK ys)) key = some (.krow e i q (.kp kK) xs) := by rw [a0U, if_neg hne]; exact hg
 have g2 : get (set st.mem kK (.row eK false nK ys)) kK = some (.row eK false nK ys) := by rw [a0U, if_pos rfl]
 refine b84 (st := { st with mem := set st.mem kK (.row eK false nK ys) }) h1 g1 hl hx fun t v ht hv => ?_
 rw [hkq] at ht
 cases ht
 rw [hq]
 have := a20 (x := .c (.o kK)) h1.ob h1.rows (show a0v P env _ w (.c (.o kK)) v from hv)
 simp only [b3P, c7W, g2] at this
 exact this
def f1i (kb : Nat) (own : Option (Nat × Nat × Nat)) (st : St) : St := match own with
 | some (t, key0, ix) => e07 (kb + t + 1) (kb + t) (f1h (kb + t) key0 ix st)
 | none => st
theorem a8V (h : Rel P N n0 B M0 w0 F e0 env st a w) {kb : Nat} (hF : ∀ k, F k → k < kb) (own : Option (Nat × Nat × Nat)) : ∃ env', Rel P N n0 B M0 w0 F e0 env' (f1i kb own st) a w := by
 cases own with
 | none => exact ⟨env, h⟩
 | some o =>
  obtain ⟨env1, h1⟩ := c5s h (kb + o.1) o.2.1 o.2.2 fun hf => by have := hF _ hf; omega
  exact c1k h1 _ _ fun hf => by have := hF _ hf; omega
def d6j (P : Program) (kb f id : Nat) (X : Ctx) (Fs : a05) (st : St) (x : Ex × St) : Prop := ∃ (cl : a0e) (hs : a5Q) (a b : List Nat) (own : Option (Nat × Nat × Nat)) (n : Nat), a0c P cl ∧ a09 P hs.los kb f X Fs ∧ a3P P cl hs kb n (a8U (a1i P f id)) st (fun e st => some (e, a4r a b (f1i kb own (a2B P kb hs.loops id st)))) = some x
theorem d6k {kb f id : Nat} {X : Ctx} {Fs : a05} {g : St → Option (List (Bool × (Ex × St)))} (hP : a4N P) (h1 : c5q P f id = true) (hlp : a1i P f id = .loop (a8U (a1i P f id))) (hfs : a5X Fs (a1i P f id))
  (h : ∀ st alts, g st = some alts → ∀ x, a8t alts some = some x → d6h (d6j P kb f id X Fs) st x) : a3n P kb (a1i P f id) g X Fs := by
 intro st alts hst x hx N n0 F B M0 w0 e0 env a w hX hF hok hrel Fe nn hFe
 obtain ⟨n, hn⟩ := (h st alts hst x hx).num
 rw [hlp] at hok hfs ⊢
 simp only [okC] at hok
 refine a21 (fun m a w => ∃ env st, Rel P N n0 B M0 w0 F e0 env st a w ∧ c8V (d6j P kb f id X Fs) m st x) n ⟨env, st, hrel, hn⟩ ?_
 rintro m a' w' ⟨env', st', h2, h3⟩
 have round : ∀ {y : Ex × St}, d6j P kb f id X Fs st' y → (a8U (a1i P f id)).wpIn Fe nn P (b8K P N n0 B M0 w0 F e0 (fun e st => some (e, st)) y) a' w' := by
  rintro y ⟨cl, hs, ts, ks, own, k, hcl, hal, hk⟩
  have hin : ∀ b' ∈ a0N (a8U (a1i P f id)), c5h P hs kb b' X Fs := fun b' hb' => hal.inner h1 b' (by rw [hlp]; simp [a0N, hb'])
  refine wpIn_mono (a8P hX hcl (b2g hP.mixed hcl) hF k hok hfs.loop hin h2 hk Fe nn hFe) ?_
  intro e a1 w1 hp
  cases e with
  | normal => obtain ⟨e1, s1, g1, g2⟩ := hp; obtain ⟨e2, g3⟩ := a1t g1 hF hs.loops id; obtain ⟨e3, g4⟩ := a8V g3 hF own; exact ⟨e3, _, a1A g4 ts ks, g2⟩
  | exit i => obtain ⟨e1, s1, g1, g2⟩ := hp; obtain ⟨e2, g3⟩ := a1t g1 hF hs.loops id; obtain ⟨e3, g4⟩ := a8V g3 hF own; exact ⟨e3, _, a1A g4 ts ks, g2⟩
  | ret => obtain ⟨e1, s1, g1, g2⟩ := hp; obtain ⟨e2, g3⟩ := a1t g1 hF hs.loops id; obtain ⟨e3, g4⟩ := a8V g3 hF own; exact ⟨e3, _, a1A g4 ts ks, g2⟩
  | _ => exact hp.elim
 cases h3 with
 | @stop _ _ out i hr =>
  refine wpIn_mono (round hr) ?_
  intro e a1 w1 hp
  cases e with
  | normal => obtain ⟨_, _, _, h4⟩ := hp; cases h4
  | exit i => exact hp
  | ret => exact hp
  | _ => exact hp.elim
 | @step n _ st2 _ hr hrest =>
  refine wpIn_mono (round hr) ?_
  intro e a1 w1 hp
  cases e with
  | normal =>
   obtain ⟨e1, s1, g1, g2⟩ := hp
   cases g2
   exact ⟨n, Nat.lt_succ_self n, e1, _, g1, hrest⟩
  | exit i => obtain ⟨_, _, _, h4⟩ := hp; cases h4
  | ret => obtain ⟨_, _, _, h4⟩ := hp; cases h4
  | _ => exact hp.elim
end
end Go.AM

set_option linter.unusedVariables false
namespace Go.AM
open Go
variable {P : Program} {N n0 kb : Nat} {F : Nat → Prop} {B M0 : a0B} {w0 : World} {e0 : a4s} {env : Env} {st : St} {a : Act} {w : World}
theorem e08 {T T' ty el : TypeId} {key off cp : Nat} {xs ys : List D} {y : V} {vy : Value}
  (h : Rel P N n0 B M0 w0 F e0 env st a w) (hel : a0j P T = some el) (hg : get st.mem key = some (.row el true false xs)) (hvy : a0v P env (Sof P B M0 n0 env st.mem w) w y vy) (hy : a53 P st.mem el T' y = some ys) (h1 : a0a P el = 1) (ho : off ≤ xs.length) :
  ∃ w', (Builtin.copy_ #[T, T'] ty #[.slice (some ⟨(env key).blk, off, none⟩) (xs.length - off) cp, vy]).run P w = .ok (goInt ((min ys.length (xs.length - off) : Nat) : Int)) w' ∧
   Rel P N n0 B M0 w0 F e0 env { st with mem := set st.mem key (.row el true false (xs.take off ++ ys.take (xs.length - off) ++ xs.drop (off + ys.length))) } a w' := by
 obtain ⟨hu, hsl, hty, hpos⟩ := a0h hel
 obtain ⟨news, n1, n2, n3, n4, n5⟩ := a6L h hvy hy h1 hsl
 obtain ⟨_, ⟨hn, _⟩ | ⟨_, hb, cap, cur, q1, ⟨fr, hfr, q2⟩, q3, q4, q5, q6⟩⟩ := h.ob _ _ hg
 ·cases hn
 rw [h1, Nat.mul_one] at q5
 generalize hm : min ys.length (xs.length - off) = m
 have hlm : (news.take m).length = m := by rw [List.length_take]; omega
 have hfit : (news.take m).length + off ≤ cur.size := by rw [hlm]; omega
 have hst := a0R P (env key).blk off el fr (news.take m) 0 cur w q2 hfr (by rw [Nat.add_zero]; omega) fun u hu => n3 u (List.mem_of_mem_take hu)
 simp only [Nat.add_zero, Nat.zero_add] at hst
 have hty1 : (sizeOf el).run P w = .ok 1 w := by rw [a0F hty, h1]
 have hrun : ∃ c', c' = (cur.toList.take off ++ news.take m ++ cur.toList.drop (off + m)).toArray ∧ (Builtin.copy_ #[T, T'] ty #[.slice (some ⟨(env key).blk, off, none⟩) (xs.length - off) cp, vy]).run P w = .ok (goInt ((m : Nat) : Int)) (w.setRow (env key).blk c') := by
  refine ⟨_, rfl, ?_⟩
  have n4' := n4 m (by omega)
  simp only [Builtin.copy_, List.getElem?_toArray, List.getElem?_cons_zero, List.getElem?_cons_succ, f24, run_underlying hu, f21, n2, hty1]
  rw [show Nat.min ys.length (xs.length - off) = m from hm, n4']
  simp only [f21, f24, hst, f25, hlm]
 obtain ⟨c', hc', hrun⟩ := hrun
 refine ⟨_, hrun, ?_⟩
 have hlt0 : (cur.toList.take off).length = off := by rw [List.length_take, Array.length_toList]; omega
 have hsz : c'.size = cur.size := by rw [hc']; simp only [List.size_toArray, List.length_append, List.length_drop, Array.length_toList, hlt0, hlm]; omega
 have hlen : (xs.take off ++ ys.take (xs.length - off) ++ xs.drop (off + ys.length)).length = xs.length := by simp; omega
 have hseg : ∀ j : Nat, c'[j]? = if off ≤ j ∧ j < off + m then news[j - off]? else cur[j]? := by
  intro j
  rw [hc', List.getElem?_toArray]
  by_cases hj : j < off
  ·rw [if_neg (by omega), List.append_assoc, List.getElem?_append_left (by omega), List.getElem?_take, if_pos hj, Array.getElem?_toList]
  ·by_cases hj2 : j < off + m
   ·rw [if_pos ⟨by omega, hj2⟩, List.getElem?_append_left (by simp only [List.length_append, hlt0, hlm]; omega), List.getElem?_append_right (by omega), hlt0, List.getElem?_take, if_pos (by omega)]
   ·rw [if_neg (by omega), List.getElem?_append_right (by simp only [List.length_append, hlt0, hlm]; omega), List.getElem?_drop, Array.getElem?_toList]
    simp only [List.length_append, hlt0, hlm]
    congr 1
    omega
 refine Rel.upd h hg (o' := .row el true false (xs.take off ++ ys.take (xs.length - off) ++ xs.drop (off + ys.length))) (w' := w.setRow (env key).blk c') (fun b i => b = (env key).blk ∧ off ≤ i ∧ i < off + m) ?_ ?_ ?_ (fun hr => hr) ?_ rfl ?_ ?_
 ·refine a1U q2 (by rw [hsz]) fun i hi => ?_
  rw [hseg, if_neg (fun hc => hi ⟨rfl, hc.1, hc.2⟩)]
 ·rintro b i ⟨rfl, _⟩; exact ⟨rfl, rfl, .inl rfl⟩
 ·rintro b i ⟨_, h7, _⟩; exact ⟨rfl, h7, .inl rfl⟩
 ·intro b hb'; exact setRow_other _ _ _ _ hb'
 ·intro S' hkp
  refine ⟨hsl, .inr ⟨rfl, hb, cap, _, by rw [hlen]; exact q1, a3F hfr q2 (by rw [hsz]), by rw [hlen]; exact q3, q4, by rw [h1, Nat.mul_one, ← q5]; exact hsz, ?_⟩⟩
  intro i j kk hi hkk
  rw [hlen] at hi
  have hj : j = 0 := by have := (f3a.1 hkk).1; omega
  subst hj
  rw [h1, Nat.mul_one, Nat.add_zero, hseg]
  have hx1 : (xs.take off).length = off := by rw [List.length_take]; omega
  have hx2 : (ys.take (xs.length - off)).length = m := by rw [List.length_take]; omega
  by_cases hlt : off ≤ i ∧ i < off + m
  ·rw [if_pos hlt]
   obtain ⟨u, r1, r2⟩ := n5 (i - off) kk (by omega) hkk
   have hgd : (xs.take off ++ ys.take (xs.length - off) ++ xs.drop (off + ys.length)).getD i (.i 0) = ys.getD (i - off) (.i 0) := by
    rw [f26, List.getElem?_append_left (by simp only [List.length_append, hx1, hx2]; omega), List.getElem?_append_right (by omega), hx1, List.getElem?_take, if_pos (by omega), f26]
   exact ⟨u, r1, by rw [hgd]; exact r2.mono hkp⟩
  ·rw [if_neg hlt]
   obtain ⟨u, r1, r2⟩ := q6 i 0 kk hi hkk
   rw [h1, Nat.mul_one, Nat.add_zero] at r1
   have hgd : (xs.take off ++ ys.take (xs.length - off) ++ xs.drop (off + ys.length)).getD i (.i 0) = xs.getD i (.i 0) := by
    rw [f26, f26]
    by_cases hj : i < off
    ·rw [List.append_assoc, List.getElem?_append_left (by omega), List.getElem?_take, if_pos hj]
    ·rw [List.getElem?_append_right (by simp only [List.length_append, hx1, hx2]; omega), List.getElem?_drop]
     simp only [List.length_append, hx1, hx2]
     congr 2
     omega
   exact ⟨u, r1, by rw [hgd]; exact r2.mono hkp⟩
 ·intro e' ex xs' he i hi
  simp only [Obj.row.injEq] at he
  obtain ⟨rfl, rfl, _, rfl⟩ := he
  exact h.pr key _ _ xs hg i (by rw [hlen] at hi; exact hi)
end Go.AM

set_option linter.unusedVariables false
namespace Go.AM
open Go
variable {P : Program} {N n0 kb : Nat} {F : Nat → Prop} {B M0 : a0B} {w0 : World} {e0 : a4s} {env : Env} {st : St} {a : Act} {w : World}
theorem b50 {ops : Array Oper} {Q : Act → Prop} {o : Oper} {rest : List Oper} {v : Value} (hg : o.guard = none) (h : (execOp a.eval o).run P w = .ok (.value v) w) (hk : wpStill P ops w Q rest (a.put o.dst v)) : wpStill P ops w Q (o :: rest) a := by
 unfold wpStill
 rw [if_pos (by simp [Region.wanted, hg])]
 unfold Oper.still
 rw [h, Oper.stillUpon_value]
 exact hk
theorem a18 {ops : Array Oper} {Q : Act → Prop} {o : Oper} {rest : List Oper} (h : Rel P N n0 B M0 w0 F e0 env st a w) (hd : ∀ d, o.dst = some d → d < N) (hg : o.guard = none) {x : V} (hv : a1C P st.mem (evu st) (evw st) o = some (true, x))
  (hk : ∀ v, a0v P env (Sof P B M0 n0 env st.mem w) w x v → Rel P N n0 B M0 w0 F e0 env (st.put o.dst x) (a.put o.dst v) w → wpStill P ops w Q rest (a.put o.dst v)) : wpStill P ops w Q (o :: rest) a := by
 obtain ⟨v, h1, h2⟩ := b8m h.ob h.rows h.evu h.evw hv
 exact b50 hg h1 (hk v h2 (h.put hd (a0n.of h2)))
theorem a6m {ops : Array Oper} {Q : Act → Prop} {o : Oper} {rest : List Oper} {v : Value} (h : Rel P N n0 B M0 w0 F e0 env st a w) (hd : ∀ d, o.dst = some d → d < N) (hg : o.guard = none) (hr : (execOp a.eval o).run P w = .ok (.value v) w)
  (hk : Rel P N n0 B M0 w0 F e0 env (st.put o.dst (.c (.v v))) (a.put o.dst v) w → wpStill P ops w Q rest (a.put o.dst v)) : wpStill P ops w Q (o :: rest) a :=
 b50 hg hr (hk (h.put hd (a0n.of (x := .c (.v v)) rfl)))
theorem c8Y {s f n : Nat} (hn : a3M P s f = some n) (b o : Nat) : (Instr.fieldAt s (.pointer (some ⟨b, o, none⟩)) f).run P w = .ok (.pointer (some ⟨b, o + n, none⟩)) w := by
 unfold a3M at hn
 split at hn
 ·rename_i fs hu
  split at hn
  ·rename_i fd hfd
   cases hz : Nat.beq (a0a P fd.type) 0 with
   | true => rw [hz] at hn; cases hn
   | false =>
    rw [hz] at hn
    simp only [cond_false, f2Y] at hn
    subst hn
    have hne : a0a P fd.type ≠ 0 := by rw [a0p] at hz; simpa using hz
    simp only [Instr.fieldAt, f24, run_underlying hu, f21, hfd, Instr.sureAddr, f25, a5R hne]
  ·cases hn
 ·cases hn
theorem c5t {T b o : Nat} {v : Value} (ha : a0g P T = false) (ht : tyB P T = true) (h : w.cell? ⟨b, o, none⟩ = some v) : (Instr.loadAt T (.pointer (some ⟨b, o, none⟩))).run P w = .ok v w := by
 simp only [Instr.loadAt, Instr.sureAddr, f24, f25, f21, a10 ha ht h]
theorem a5j {ρ : Operand → Value} {o : Oper} {m : Sem Value} {v : Value} (h : execOp ρ o = (do pure (.value (← m)))) (hm : m.run P w = .ok v w) : (execOp ρ o).run P w = .ok (.value v) w := by
 rw [h, f24, hm]
 rfl
theorem c8Z {S : a0B} {s : a1x} {e i q : Nat} {c : C} {xs : List D} (h : a0w P env S w s (.krow e i q c xs)) : i < xs.length ∧ ∃ cap u, s.hdr = .slice (some ⟨s.blk, 0, none⟩) xs.length cap ∧ w.cell? ⟨s.blk, i * a0a P e + q, none⟩ = some u ∧ a0m P env S w c u := by
 obtain ⟨a1, a2, a3, a4, cap, cur, a5, ⟨fr, _, a6⟩, a7, a8, a9, ⟨u, b1, b2⟩, _⟩ := h
 exact ⟨a3, cap, u, a5, by simp only [World.cell?, a6]; exact b1, b2⟩
theorem c80 {T e : TypeId} (hu : P.underlying T = some (.slice e)) (hty : tyB P e = true) {b len cap : Nat} {kk : IntKind} {n : Int} (h0 : 0 ≤ n) (h1 : n < len) :
  (Instr.indexAt T (.slice (some ⟨b, 0, none⟩) len cap) (.int kk n)).run P w = .ok (.pointer (some ⟨b, n.toNat * a0a P e, none⟩)) w := by
 simp only [Instr.indexAt, asIntOf, f24, f25, f21, run_underlying hu]
 rw [if_pos ⟨h0, h1⟩]
 simp only [f24, a0F hty, f21, f25, Addr.add_lit, Nat.zero_add]
theorem d6l {T e : TypeId} (hu : P.underlying T = some (.slice e)) (hty : tyB P e = true) {b len cap : Nat} {kk : IntKind} {n : Int} (h0 : 0 ≤ n) (h1 : n ≤ len) (h2 : n.toNat < cap) (h3 : len ≤ cap) :
  (Instr.sliceAt T (.slice (some ⟨b, 0, none⟩) len cap) (some (.int kk n)) none none).run P w = .ok (.slice (some ⟨b, n.toNat * a0a P e, none⟩) (len - n.toNat) (cap - n.toNat)) w := by
 have hr := a3E (P := P) (w := w) (isS := true) (len := len) (cap := cap) (vlo := some (.int kk n)) (vhi := none) (a := n) (b := len) (.inr ⟨kk, rfl⟩) (.inl ⟨rfl, rfl⟩) h0 h1 (by omega) h3
 simp only [Instr.sliceAt, f24, run_underlying hu, f21, Instr.slice, hr, a0F hty, f25, if_neg (Nat.ne_of_gt h2), f3f, Addr.add_lit, Nat.zero_add, Int.toNat_natCast]
end Go.AM

set_option linter.unusedVariables false
set_option linter.unusedSimpArgs false
namespace Go.AM
open Go
variable {P : Program} {N n0 kb : Nat} {F : Nat → Prop} {B M0 : a0B} {w0 : World} {e0 : a4s} {env : Env} {a : Act} {w : World}
theorem c81 {id nn R K T3 T5 T11 T13 e k q eb sf ff : Nat} {i n : Int} {xs xs' bs bs' ys : List D} {o0 o1 o2 o3 o4 o5 o6 o7 o8 o9 o10 o11 o12 o13 : Oper} {c : Call} {s0 s1 s2 s3 : St} {S4 : Value → St} {S5 S6 S7 S8 S9 S10 S11 : Value → Value → St} {S12 S13 : Value → Value → Value → St} {x0 x1 x2 x6 x7 x8 x9 x12 : V} {ts ks : List Nat} {out : St}
 (hm : P.follows .mixedOrders = true) (hlex : Region.lexTailB .any [o0, o1, o2, o3, o4, o5, o6, o7, o8, o9, o10, o11, o12, o13].toArray 13 = true) (h : Rel P N n0 B M0 w0 F e0 env s0 a w) (hN : 84 ≤ N) (hcl : a3z (fun _ => false) s0 = s0)
 (g0 : o0.guard = none) (d0 : o0.dst = some 70) (g1 : o1.guard = none) (d1 : o1.dst = some 71) (g2 : o2.guard = none) (d2 : o2.dst = some 72) (g3 : o3.guard = none) (d3 : o3.dst = some 73) (g4 : o4.guard = none) (d4 : o4.dst = some 74) (g5 : o5.guard = none) (d5 : o5.dst = some 75) (g6 : o6.guard = none) (d6 : o6.dst = some 76) (g7 : o7.guard = none) (d7 : o7.dst = some 77) (g8 : o8.guard = none) (d8 : o8.dst = some 78) (g9 : o9.guard = none) (d9 : o9.dst = some 79) (g10 : o10.guard = none) (d10 : o10.dst = some 80) (g11 : o11.guard = none) (d11 : o11.dst = some 81) (g12 : o12.guard = none) (d12 : o12.dst = some 82) (g13 : o13.guard = none) (d13 : o13.dst = some 83)
 (v0 : a1C P (s0).mem (evu (s0)) (evw (s0)) o0 = some (true, x0)) (e1 : s0.put (some 70) x0 = s1)
 (v1 : a1C P (s1).mem (evu (s1)) (evw (s1)) o1 = some (true, x1)) (e2 : s1.put (some 71) x1 = s2)
 (v2 : a1C P (s2).mem (evu (s2)) (evw (s2)) o2 = some (true, x2)) (e3 : s2.put (some 72) x2 = s3)
 (p3 : o3.op = .indexAddr T3 (.tmp 71) (.tmp 72)) (u71 : evu s3 (.tmp 71) = .c (.o R)) (u72 : evu s3 (.tmp 72) = .c (.i .i64 i)) (k3 : get s3.mem R = some (.krow e k q (.kp K) xs)) (t3 : P.underlying T3 = some (.slice e)) (t3' : tyB P e = true) (hik : i = k)
 (e4 : ∀ v, s3.put (some 73) (.c (.v v)) = S4 v) (p4 : o4.op = .fieldAddr sf (.tmp 73) ff) (f1j : a3M P sf ff = some q) (u73 : ∀ v, evu (S4 v) (.tmp 73) = .c (.v v))
 (e5 : ∀ v v', (S4 v).put (some 74) (.c (.v v')) = S5 v v') (u74 : ∀ v v', evu (S5 v v') (.tmp 74) = .c (.v v')) (p5 : o5.op = .load T5 (.tmp 74)) (ha5 : a0g P T5 = false) (ty5 : tyB P T5 = true)
 (e6 : ∀ v v', (S5 v v').put (some 75) (.c (.o K)) = S6 v v')
 (v6 : ∀ v v', a1C P (S6 v v').mem (evu (S6 v v')) (evw (S6 v v')) o6 = some (true, x6)) (e7 : ∀ v v', (S6 v v').put (some 76) x6 = S7 v v')
 (v7 : ∀ v v', a1C P (S7 v v').mem (evu (S7 v v')) (evw (S7 v v')) o7 = some (true, x7)) (e8 : ∀ v v', (S7 v v').put (some 77) x7 = S8 v v')
 (v8 : ∀ v v', a1C P (S8 v v').mem (evu (S8 v v')) (evw (S8 v v')) o8 = some (true, x8)) (e9 : ∀ v v', (S8 v v').put (some 78) x8 = S9 v v')
 (v9 : ∀ v v', a1C P (S9 v v').mem (evu (S9 v v')) (evw (S9 v v')) o9 = some (true, x9)) (e10 : ∀ v v', (S9 v v').put (some 79) x9 = S10 v v')
 (v10 : ∀ v v', a1C P (S10 v v').mem (evu (S10 v v')) (evw (S10 v v')) o10 = some (true, (.c (.i .i64 n)))) (e11 : ∀ v v', (S10 v v').put (some 80) (.c (.i .i64 n)) = S11 v v')
 (u75 : ∀ v v', evu (S11 v v') (.tmp 75) = .c (.o K)) (u80 : ∀ v v', evu (S11 v v') (.tmp 80) = .c (.i .i64 n)) (k11 : ∀ v v', get (S11 v v').mem K = some (.row eb true false bs))
 (p11 : o11.op = .slice T11 (.tmp 75) (some (.tmp 80)) none none) (t11 : P.underlying T11 = some (.slice eb)) (t11' : tyB P eb = true) (z11 : a0a P eb = 1) (h0 : 0 ≤ n) (h1 : n.toNat < bs.length)
 (e12 : ∀ v v' v'', (S11 v v').put (some 81) (.c (.v v'')) = S12 v v' v'') (v12 : ∀ v v' v'', a1C P (S12 v v' v'').mem (evu (S12 v v' v'')) (evw (S12 v v' v'')) o12 = some (true, x12)) (e13 : ∀ v v' v'', (S12 v v' v'').put (some 82) x12 = S13 v v' v'')
 (u81 : ∀ v v' v'', evu (S13 v v' v'') (.tmp 81) = .c (.v v'')) (u82 : ∀ v v' v'', evu (S13 v v' v'') (.tmp 82) = x12) (c0 : o13.op = .call c) (c1 : c.callee = .builtin .copy) (c2 : c.args = #[.tmp 81, .tmp 82]) (c3 : c.argTypes = #[T11, T13])
 (hel : a0j P T11 = some eb) (k13 : ∀ v v' v'', get (S13 v v' v'').mem K = some (.row eb true false bs)) (k13' : ∀ v v' v'', get (S13 v v' v'').mem R = some (.krow e k q (.kp K) xs)) (hy : ∀ v v' v'', a53 P (S13 v v' v'').mem eb T13 x12 = some ys)
 (hb : bs.take n.toNat ++ ys.take (bs.length - n.toNat) ++ bs.drop (n.toNat + ys.length) = bs') (hl : xs'.length = xs.length) (hx : ∀ a j, ¬ (a = k ∧ j = q) → elD P e (xs'.getD a (.i 0)) j = elD P e (xs.getD a (.i 0)) j) (hq : elD P e (xs'.getD k (.i 0)) q = .l false bs') (hkq : (a0f P e)[q]? = some (.sl eb)) (hne : R ≠ K)
 (eo : ∀ v v' v'' m, a4r ts ks { ({ S13 v v' v'' with mem := set (S13 v v' v'').mem K (.row eb true false bs') } : St).put (some 83) (.c (.i .i64 m)) with mem := set (set (set (S13 v v' v'').mem K (.row eb true false bs')) K (.row eb false false bs')) R (.row e true false xs') } = out) :
 (Code.region id [o0, o1, o2, o3, o4, o5, o6, o7, o8, o9, o10, o11, o12, o13].toArray true).wpIn Fence.wide nn P (b8K P N n0 B M0 w0 F e0 (fun e st => some (e, st)) (.normal, out)) a w := by
 refine wpIn_wide.2 ?_
 refine wp_region_still_tail 13 hm hlex ?_
 simp only [List.take_succ_cons, List.take_zero, List.drop_succ_cons, List.drop_zero]
 have h := b8V h (fun _ => false) (w.drawn + 1)
 rw [hcl] at h
 generalize ({ w with drawn := w.drawn + 1 } : World) = w at h ⊢
 refine a18 h (fun dd he => by rw [d0] at he; cases he; exact Nat.lt_of_lt_of_le (by decide) hN) g0 v0 fun v hv h => ?_
 rw [d0] at h ⊢
 rw [e1] at h
 generalize a.put (some 70) v = a at h ⊢
 refine a18 h (fun dd he => by rw [d1] at he; cases he; exact Nat.lt_of_lt_of_le (by decide) hN) g1 v1 fun v hv h => ?_
 rw [d1] at h ⊢
 rw [e2] at h
 generalize a.put (some 71) v = a at h ⊢
 refine a18 h (fun dd he => by rw [d2] at he; cases he; exact Nat.lt_of_lt_of_le (by decide) hN) g2 v2 fun v hv h => ?_
 rw [d2] at h ⊢
 rw [e3] at h
 generalize a.put (some 72) v = a at h ⊢
 have e71 := h.evu (.tmp 71)
 rw [u71] at e71
 have e72 := h.evu (.tmp 72)
 rw [u72] at e72
 have e71 : a.eval (.tmp 71) = (env R).hdr := e71
 have e72 : a.eval (.tmp 72) = .int .i64 i := e72
 obtain ⟨hk, cap, u, q1, q2, q3⟩ := c8Z (h.ob R (.krow e k q (.kp K) xs) k3)
 have q3 : u = (env K).hdr := q3
 refine a6m h (fun dd he => by rw [d3] at he; cases he; exact Nat.lt_of_lt_of_le (by decide) hN) g3 (a5j (m := Instr.indexAt T3 (a.eval (.tmp 71)) (a.eval (.tmp 72))) (by unfold execOp; rw [p3]) (by rw [e71, e72, q1]; exact c80 (e := e) t3 t3' (by omega) (by omega))) fun h => ?_
 rw [d3] at h ⊢
 rw [e4] at h
 have e73 := h.evu (.tmp 73)
 rw [u73] at e73
 have e73 : (a.put (some 73) (.pointer (some ⟨(env R).blk, i.toNat * a0a P e, none⟩))).eval (.tmp 73) = .pointer (some ⟨(env R).blk, i.toNat * a0a P e, none⟩) := e73
 generalize hp3 : (Value.pointer (some ⟨(env R).blk, i.toNat * a0a P e, none⟩)) = p3 at h e73 ⊢
 generalize a.put (some 73) p3 = a at h e73 ⊢
 rw [← hp3] at e73
 refine a6m h (fun dd he => by rw [d4] at he; cases he; exact Nat.lt_of_lt_of_le (by decide) hN) g4 (a5j (m := Instr.fieldAt sf (a.eval (.tmp 73)) ff) (by unfold execOp; rw [p4]) (by rw [e73]; exact c8Y f1j _ _)) fun h => ?_
 rw [d4] at h ⊢
 rw [e5] at h
 have e74 := h.evu (.tmp 74)
 rw [u74] at e74
 have e74 : (a.put (some 74) (.pointer (some ⟨(env R).blk, i.toNat * a0a P e + q, none⟩))).eval (.tmp 74) = .pointer (some ⟨(env R).blk, i.toNat * a0a P e + q, none⟩) := e74
 generalize hp4 : (Value.pointer (some ⟨(env R).blk, i.toNat * a0a P e + q, none⟩)) = p4 at h e74 ⊢
 generalize a.put (some 74) p4 = a at h e74 ⊢
 rw [← hp4] at e74
 have hr5 : (execOp a.eval o5).run P w = .ok (.value u) w := a5j (m := Instr.loadAt T5 (a.eval (.tmp 74))) (by unfold execOp; rw [p5]) (by rw [e74]; refine c5t ha5 ty5 ?_; rw [show i.toNat = k by omega]; exact q2)
 refine b50 g5 hr5 ?_
 have h := h.put (dst := o5.dst) (fun dd he => by rw [d5] at he; cases he; exact Nat.lt_of_lt_of_le (by decide) hN) (a0n.of (x := .c (.o K)) (v := u) q3)
 rw [d5] at h ⊢
 rw [e6] at h
 generalize a.put (some 75) u = a at h ⊢
 refine a18 h (fun dd he => by rw [d6] at he; cases he; exact Nat.lt_of_lt_of_le (by decide) hN) g6 (v6 p3 p4) fun v hv h => ?_
 rw [d6] at h ⊢
 rw [e7] at h
 generalize a.put (some 76) v = a at h ⊢
 refine a18 h (fun dd he => by rw [d7] at he; cases he; exact Nat.lt_of_lt_of_le (by decide) hN) g7 (v7 p3 p4) fun v hv h => ?_
 rw [d7] at h ⊢
 rw [e8] at h
 generalize a.put (some 77) v = a at h ⊢
 refine a18 h (fun dd he => by rw [d8] at he; cases he; exact Nat.lt_of_lt_of_le (by decide) hN) g8 (v8 p3 p4) fun v hv h => ?_
 rw [d8] at h ⊢
 rw [e9] at h
 generalize a.put (some 78) v = a at h ⊢
 refine a18 h (fun dd he => by rw [d9] at he; cases he; exact Nat.lt_of_lt_of_le (by decide) hN) g9 (v9 p3 p4) fun v hv h => ?_
 rw [d9] at h ⊢
 rw [e10] at h
 generalize a.put (some 79) v = a at h ⊢
 refine a18 h (fun dd he => by rw [d10] at he; cases he; exact Nat.lt_of_lt_of_le (by decide) hN) g10 (v10 p3 p4) fun v hv h => ?_
 rw [d10] at h ⊢
 rw [e11] at h
 generalize a.put (some 80) v = a at h ⊢
 have e75 := h.evu (.tmp 75)
 rw [u75] at e75
 have e75 : a.eval (.tmp 75) = (env K).hdr := e75
 have e80 := h.evu (.tmp 80)
 rw [u80] at e80
 have e80 : a.eval (.tmp 80) = .int .i64 n := e80
 obtain ⟨_, ⟨hn, _⟩ | ⟨_, hb0, cap2, cur, r1, r2, r3, _⟩⟩ := h.ob K (.row eb true false bs) (k11 p3 p4)
 ·cases hn
 have hr11 := d6l (P := P) (w := w) (T := T11) (e := eb) (kk := .i64) t11 t11' (b := (env K).blk) (len := bs.length) (cap := cap2) h0 (by omega) (by omega) r3
 rw [z11, Nat.mul_one] at hr11
 refine a6m h (fun dd he => by rw [d11] at he; cases he; exact Nat.lt_of_lt_of_le (by decide) hN) g11 (a5j (m := Instr.sliceAt T11 (a.eval (.tmp 75)) (some (a.eval (.tmp 80))) none none) (by unfold execOp; rw [p11]; rfl) (by rw [e75, e80, r1]; exact hr11)) fun h => ?_
 rw [d11] at h ⊢
 rw [e12] at h
 generalize hp11 : (Value.slice (some ⟨(env K).blk, n.toNat, none⟩) (bs.length - n.toNat) (cap2 - n.toNat)) = p11 at h ⊢
 generalize a.put (some 81) p11 = a at h ⊢
 refine a18 h (fun dd he => by rw [d12] at he; cases he; exact Nat.lt_of_lt_of_le (by decide) hN) g12 (v12 p3 p4 p11) fun v hv h => ?_
 rw [d12] at h ⊢
 rw [e13] at h
 generalize a.put (some 82) v = a at h ⊢
 refine wpStill_nil ?_
 have e81 := h.evu (.tmp 81)
 rw [u81] at e81
 have e81 : a.eval (.tmp 81) = p11 := e81
 have e82 := h.evu (.tmp 82)
 rw [u82] at e82
 obtain ⟨w', hrun, hrel⟩ := e08 (T := T11) (T' := T13) (ty := o13.type) (el := eb) (key := K) (off := n.toNat) (cp := cap2 - n.toNat) (xs := bs) (ys := ys) h hel (k13 p3 p4 p11) e82 (hy p3 p4 p11) z11 (by omega)
 rw [hp11, ← e81] at hrun
 refine c8U g13 (v := goInt ((min ys.length (bs.length - n.toNat) : Nat) : Int)) (w' := w') ?_ ?_
 ·simp only [execOp, c0, resolve, c1, c2, c3, f24, f25, f21, invoke, builtin, List.map_toArray, List.map_cons, List.map_nil, hrun]
 ·have hf := hrel.put (dst := o13.dst) (fun dd he => by rw [d13] at he; cases he; exact Nat.lt_of_lt_of_le (by decide) hN) (a0n.of (x := .c (.i .i64 ((min ys.length (bs.length - n.toNat) : Nat) : Int))) (v := goInt ((min ys.length (bs.length - n.toNat) : Nat) : Int)) rfl)
  rw [d13] at hf ⊢
  rw [hb] at hf
  have hf2 := d6i hf hne (xs' := xs') (nK := false) (ex := true) (ys := bs') (by rw [show ∀ (s : St) (d : Option Nat) (x : V), (s.put d x).mem = s.mem from fun s d x => by cases d <;> rfl, a0U, if_neg hne]; exact k13' p3 p4 p11) (by rw [show ∀ (s : St) (d : Option Nat) (x : V), (s.put d x).mem = s.mem from fun s d x => by cases d <;> rfl, a0U, if_pos rfl]) hkq hl hx hq
  have hf3 := a1A hf2 ts ks
  rw [show ∀ (s : St) (d : Option Nat) (x : V), (s.put d x).mem = s.mem from fun s d x => by cases d <;> rfl] at hf3
  have eo' := eo p3 p4 p11 ((min ys.length (bs.length - n.toNat) : Nat) : Int)
  rw [eo'] at hf3
  exact ⟨env, out, hf3, rfl⟩
end Go.AM

set_option linter.unusedVariables false
set_option linter.unusedSimpArgs false
set_option maxRecDepth 100000
namespace Go.Proofs.Ytfogaejiehebeaa
open Go Go.AM
theorem a0b : a4N Try.prog := c8O (by kernel_rfl)
namespace Ce
abbrev LD : Type := List D
abbrev LB : Type := List UInt8
variable (N : Nat) {R : Type}
noncomputable def c82 : List (Nat × List Nat) := [(0, [0]), (1, [0]), (2, []), (3, [0])]
noncomputable def c83 : a0r := []
noncomputable def b2o (N : Nat) : Sg Try.prog 0 68 := .start c83 c82
noncomputable def F68x0 (N : Nat) (v0 : Bool) (v1 : LD) (k0 : Bool × LD → Option R) : Option R :=
 bif v0 then
  k0 (true, [])
 else
  bif (decide ((0 + v1.length) * 1 ≤ a1j) && decide ((0 + v1.length) ≤ a0i)) then
   k0 ((v1.isEmpty && false), v1)
  else
   none
noncomputable def G68x0 (v0 : Bool) (v1 : LD) : Option (Bool × LD) := F68x0 N v0 v1 (fun p => some p)
theorem b51 (v0 : Bool) (v1 : LD) (k0 : Bool × LD → Option R) : F68x0 N v0 v1 k0 = (G68x0 N v0 v1).bind k0 := by
 unfold G68x0 F68x0
 repeat' (first | with_reducible apply a0d | (with_reducible apply a0l; intro _) | rfl)
noncomputable def b2p : Sh := { tmps := [(0, .c (.sl 5))], mem := [] }
noncomputable def c84 (L : List Lf) : List (Bool × Res) := bnd (F68x0 N (lb L 0) (ll L 1) (fun p => some p)) fun q => [(q.isSome, ([.c (.sl 5 (q.getD default).1 (q.getD default).2)], []))]
theorem c1l (L : List Lf) : bd Try.prog a3o (b2o N).h 68 b2p L = F68x0 N (lb L 0) (ll L 1) (fun p => some ([.c (.sl 5 p.1 p.2)], [])) := by kernel_rfl
theorem c85 : a0t Try.prog 68 b2p (c84 N) :=
 (b2o N).fn a0b a1S fun L x hx => ((c1l N L).trans ((b51 N ..).trans (a0D x hx)))
noncomputable def c1m : a0e := ext 68 (a1b b2p (c84 N)) a3o
theorem a62 : a0c Try.prog (c1m N) := a0t.to (c85 N) a1S
noncomputable def c86 : List (Nat × List Nat) := [(0, [0]), (1, [0]), (2, []), (3, [0])]
noncomputable def c87 : a0r := []
noncomputable def b2q (N : Nat) : Sg Try.prog 0 69 := .start c87 c86 true
noncomputable def b2r (N : Nat) (v0 : Bool) (v1 : LD) (k0 : Unit → Option R) (k1 : Bool → Option R) : Option R :=
 bif v0 then
  k0 ()
 else
  bif (decide ((0 + v1.length) * 40 ≤ a1j) && decide ((0 + v1.length) ≤ a0i)) then
   k1 (v1.isEmpty && false)
  else
   none
noncomputable def b85 (v0 : Bool) (v1 : LD) : Option (Sum (Unit) (Bool)) := b2r N v0 v1 (fun p => some (.inl p)) (fun p => some (.inr p))
theorem b52 (v0 : Bool) (v1 : LD) (k0 : Unit → Option R) (k1 : Bool → Option R) : b2r N v0 v1 k0 k1 = (b85 N v0 v1).bind (a1a k0 k1) := by
 unfold b85 b2r
 repeat' (first | with_reducible apply a0d | (with_reducible apply a0l; intro _) | rfl)
noncomputable def b2s : Sh := { tmps := [(0, .c (.sl 44))], mem := [] }
noncomputable def c88 (L : List Lf) : List (Bool × Res) := bnd (b2r N (lb L 0) (ll L 1) (fun p => some (.inl p)) (fun p => some (.inr p))) fun q => [((a07 q), ([.c (.sl 44 true [])], [])), ((a0I q).isSome, ([.c (.o 7)], [(7, .row 44 true ((a0I q).getD default) (ll L 1))]))]
theorem c1n (L : List Lf) : bd Try.prog (c1m N) (b2q N).h 69 b2s L = b2r N (lb L 0) (ll L 1) (fun _ => some ([.c (.sl 44 true [])], [])) (fun p => some ([.c (.o 7)], [(7, .row 44 true p (ll L 1))])) := by kernel_rfl
theorem c89 : a0t Try.prog 69 b2s (c88 N) :=
 (b2q N).fn a0b (a62 N) fun L x hx => ((c1n N L).trans ((b52 N ..).trans ((a3w a0D) x hx)))
noncomputable def c1o : a0e := ext 69 (a1b b2s (c88 N)) (c1m N)
theorem a63 : a0c Try.prog (c1o N) := a0t.to (c89 N) (a62 N)
noncomputable def c9a : List (Nat × List Nat) := [(0, [0]), (1, [0]), (2, []), (3, [0])]
noncomputable def c9b : a0r := []
noncomputable def b2t (N : Nat) : Sg Try.prog 0 70 := .start c9b c9a true
noncomputable def F70x0 (N : Nat) (v0 : Bool) (v1 : LD) (k0 : Unit → Option R) (k1 : Bool → Option R) : Option R :=
 bif v0 then
  k0 ()
 else
  bif (decide ((0 + v1.length) * 24 ≤ a1j) && decide ((0 + v1.length) ≤ a0i)) then
   k1 (v1.isEmpty && false)
  else
   none
noncomputable def G70x0 (v0 : Bool) (v1 : LD) : Option (Sum (Unit) (Bool)) := F70x0 N v0 v1 (fun p => some (.inl p)) (fun p => some (.inr p))
theorem b53 (v0 : Bool) (v1 : LD) (k0 : Unit → Option R) (k1 : Bool → Option R) : F70x0 N v0 v1 k0 k1 = (G70x0 N v0 v1).bind (a1a k0 k1) := by
 unfold G70x0 F70x0
 repeat' (first | with_reducible apply a0d | (with_reducible apply a0l; intro _) | rfl)
noncomputable def b2u : Sh := { tmps := [(0, .c (.sl 61))], mem := [] }
noncomputable def c9c (L : List Lf) : List (Bool × Res) := bnd (F70x0 N (lb L 0) (ll L 1) (fun p => some (.inl p)) (fun p => some (.inr p))) fun q => [((a07 q), ([.c (.sl 61 true [])], [])), ((a0I q).isSome, ([.c (.o 7)], [(7, .row 61 true ((a0I q).getD default) (ll L 1))]))]
theorem c1p (L : List Lf) : bd Try.prog (c1o N) (b2t N).h 70 b2u L = F70x0 N (lb L 0) (ll L 1) (fun _ => some ([.c (.sl 61 true [])], [])) (fun p => some ([.c (.o 7)], [(7, .row 61 true p (ll L 1))])) := by kernel_rfl
theorem c9d : a0t Try.prog 70 b2u (c9c N) :=
 (b2t N).fn a0b (a63 N) fun L x hx => ((c1p N L).trans ((b53 N ..).trans ((a3w a0D) x hx)))
noncomputable def T70x0 : a0e := ext 70 (a1b b2u (c9c N)) (c1o N)
theorem T70x0_ok : a0c Try.prog (T70x0 N) := a0t.to (c9d N) (a63 N)
noncomputable def c9e : List (Nat × List Nat) := [(0, [0]), (1, [1, 2]), (2, [1, 2]), (3, [1, 2]), (4, [15, 14, 1, 2]), (5, [15, 1, 14, 2]), (6, [1, 3, 15, 14, 2]), (7, [15, 14, 1, 2]), (8, [1, 2])]
noncomputable def c9f : a0r := [(7, [1, 2], [1, 2], []), (12, [1, 2, 14, 15], [1, 2, 11000000007], []), (19, [1, 2, 3, 14, 15], [1, 2, 11000000007], [])]
noncomputable def b2v (N : Nat) : Sg Try.prog 0 44 := .start c9f c9e
noncomputable def a23 (w3 : Bool) (w4 : LD) (k0 : Unit → Option R) (k1 : Bool → Option R) : Option R :=
 bnd (b85 N w3 w4) fun y0 =>
 bif (a07 y0) then
  k0 ()
 else
  bif (a0I y0).isSome then
   k1 ((a0I y0).getD default)
  else
   none
noncomputable def G44x0x7 (w3 : Bool) (w4 : LD) : Option (Sum (Unit) (Bool)) := a23 N w3 w4 (fun p => some (.inl p)) (fun p => some (.inr p))
theorem a8W (w3 : Bool) (w4 : LD) (k0 : Unit → Option R) (k1 : Bool → Option R) : a23 N w3 w4 k0 k1 = (G44x0x7 N w3 w4).bind (a1a k0 k1) := by
 unfold G44x0x7 a23
 repeat' (first | with_reducible apply a0d | (with_reducible apply a0l; intro _) | rfl)
noncomputable def a31 : Sh := { tmps := [(1, .c (.p 1 0)), (2, .c (.p 2 0))], mem := [(1, .box ([.i .i64, .i .i64, .i .i64, .sl 44, .sl 5])), (2, .box ([.i .i64, .i .i64, .i .i64, .sl 44, .sl 5]))] }
noncomputable def a4S (L : List Lf) (_ : Unit) : Ex × St := (.normal, mg (a0x a31 L) [1, 2] [] [1, 2] [(1, .box [.i .i64 (li L 0), .i .i64 (li L 1), .i .i64 (li L 2), .sl 44 true [], .sl 5 (lb L 5) (ll L 6)])])
noncomputable def a4T (L : List Lf) (p : Bool) : Ex × St := (.normal, mg (a0x a31 L) [1, 2] [] [1, 2, 11000000007] [(1, .box [.i .i64 (li L 0), .i .i64 (li L 1), .i .i64 (li L 2), .o 11000000007, .sl 5 (lb L 5) (ll L 6)]), (11000000007, .row 44 true p (ll L 4))])
noncomputable def c1q (L : List Lf) : List (Bool × (Ex × St)) := bnd (a23 N (lb L 3) (ll L 4) (fun p => some (.inl p)) (fun p => some (.inr p))) fun q => [((a07 q), a4S L ()), ((a0I q).isSome, a4T L ((a0I q).getD default))]
theorem b2w (L : List Lf) : pc Try.prog (T70x0 N) (b2v N).h 0 100 44 7 a31 L [1, 2] [1, 2, 11000000007] = a23 N (lb L 3) (ll L 4) (fun _ => some (a4S L ())) (fun p => some (a4T L p)) := by kernel_rfl
noncomputable def b2x : Sg Try.prog 0 44 :=
 (b2v N).cut (c1q N) a0b (T70x0_ok N) fun L x hx => (b2w N L).trans ((a8W N ..).trans ((a3w a0D) x hx))
noncomputable def F44x0x19 (w0 : Int) (w16 : LD) (k0 : LD → Option R) : Option R :=
 bif (inB w0 w16.length) then
  bif (decide (w0.toNat < w16.length)) then
   bnd (G70x0 N ((w16.getD w0.toNat (.i 0)).cell 2).isNil ((w16.getD w0.toNat (.i 0)).cell 2).items) fun y0 =>
   bif (a07 y0) then
    bif (inB w0 w16.length) then
     bif (decide (w0.toNat < w16.length)) then
      bnd ((w16.set w0.toNat (.a [(.b ((w16.getD w0.toNat (.i 0)).cell 0).toB), (.i ((w16.getD w0.toNat (.i 0)).cell 1).toI), (.l true [])])) : List D) fun y1 =>
      k0 y1
     else
      none
    else
     none
   else
    bif (a0I y0).isSome then
     bif (inB w0 w16.length) then
      bif (decide (w0.toNat < w16.length)) then
       bnd ((w16.set w0.toNat (.a [(.b ((w16.getD w0.toNat (.i 0)).cell 0).toB), (.i ((w16.getD w0.toNat (.i 0)).cell 1).toI), (.l ((a0I y0).getD default) ((w16.getD w0.toNat (.i 0)).cell 2).items)])) : List D) fun y2 =>
       k0 y2
      else
       none
     else
      none
    else
     none
  else
   none
 else
  none
noncomputable def G44x0x19 (w0 : Int) (w16 : LD) : Option (LD) := F44x0x19 N w0 w16 (fun p => some p)
theorem a6n (w0 : Int) (w16 : LD) (k0 : LD → Option R) : F44x0x19 N w0 w16 k0 = (G44x0x19 N w0 w16).bind k0 := by
 unfold G44x0x19 F44x0x19
 repeat' (first | with_reducible apply a0d | (with_reducible apply a0l; intro _) | rfl)
noncomputable def a4U : Sh := { tmps := [(1, .c (.p 1 0)), (2, .c (.p 2 0)), (3, .c (.i .i64)), (14, .c (.i .i64)), (15, .c (.i .i64))], mem := [(1, .box ([.i .i64, .i .i64, .i .i64, .o 11000000007, .sl 5])), (2, .box ([.i .i64, .i .i64, .i .i64, .sl 44, .sl 5])), (11000000007, .row 44 true)] }
noncomputable def a3I (L : List Lf) (p : LD) : Ex × St := (.normal, mg (a0x a4U L) [1, 2, 14, 15] [] [1, 2, 11000000007] [(11000000007, .row 44 true (lb L 15) p)])
noncomputable def b54 (L : List Lf) : List (Bool × (Ex × St)) := bnd (F44x0x19 N (li L 0) (ll L 16) (fun p => some p)) fun q => [(q.isSome, a3I L (q.getD default))]
theorem a8X (L : List Lf) : pc Try.prog (T70x0 N) (b2x N).h 0 100 44 19 a4U L [1, 2, 14, 15] [1, 2, 11000000007] = F44x0x19 N (li L 0) (ll L 16) (fun p => some (a3I L p)) := by kernel_rfl
noncomputable def b2y : Sg Try.prog 0 44 :=
 (b2x N).cut (b54 N) a0b (T70x0_ok N) fun L x hx => (a8X N L).trans ((a6n N ..).trans (a0D x hx))
noncomputable def a32 (w0 : Int) (w1 : Int) (w15 : LD) (kr : Int → LD → Option R) (k0 : LD → Option R) : Option R :=
 bif (decide (w1 < w0)) then
  bnd (G44x0x19 N w1 w15) fun y0 =>
  bif y0.isSome then
   kr (IntKind.wrap .i64 (w1 + 1)) (y0.getD default)
  else
   none
 else
  k0 w15
noncomputable def a33 (N : Nat) {R : Type} (w0 : Int) : Nat → Int → LD → (LD → Option R) → Option R
 | 0, _, _, _ => none
 | m + 1, w1, w15, k0 => a32 N w0 w1 w15 (fun w1 w15 => a33 N w0 m w1 w15 k0) k0
noncomputable def G44x0x12 (w0 : Int) (w1 : Int) (w15 : LD) : Option (LD) := a33 N (R := (LD)) w0 N w1 w15 (fun p => some p)
noncomputable def a19 (L x : List Lf) (kr : List Lf → Option R) (k0 : LD → Option R) : Option R := a32 N (li L 0) (li x 0) (ll x 1) (fun w1 w15 => kr [.i w1, .l w15]) k0
theorem a4V (L x : List Lf) (kr : List Lf → Option R) (k0 : LD → Option R) : a19 N L x kr k0 = (a19 N L x (fun y => some (.inl y)) (fun p => some (.inr p))).bind (a1a kr k0) := by
 unfold a19 a32
 repeat' (first | with_reducible apply a0d | (with_reducible apply a0l; intro _) | rfl)
noncomputable def a2M (L : List Lf) (m : Nat) (x : List Lf) : Option (LD) := a33 N (R := (LD)) (li L 0) m (li x 0) (ll x 1) (fun p => some p)
noncomputable def a1B : Sh := { tmps := [(1, .c (.p 1 0)), (2, .c (.p 2 0)), (14, .c (.i .i64)), (15, .c (.i .i64))], mem := [(1, .box ([.i .i64, .i .i64, .i .i64, .o 11000000007, .sl 5])), (2, .box ([.i .i64, .i .i64, .i .i64, .sl 44, .sl 5])), (11000000007, .row 44 true)] }
noncomputable def a3J (L : List Lf) (p : LD) : Ex × St := ((.exit 0), mg (a0x a1B L) [1, 2] [] [1, 2, 11000000007] [(11000000007, .row 44 true (lb L 14) p)])
noncomputable def b55 (L : List Lf) : List (Bool × (Ex × St)) := bnd (a2M N L N (pk a1B [1, 15] L)) fun q => [(q.isSome, a3J L (q.getD default))]
theorem a6o (m : Nat) (kn : St → Option (Ex × St)) (L x : List Lf) : lpB Try.prog (T70x0 N) (b2y N).h 0 44 12 a1B [1, 15] [1, 2] [1, 2, 11000000007] (m + 100) kn L x = a19 N L x (fun y => kn (a0x a1B (mx a1B [1, 15] L y))) (fun p => some (a3J L p)) := by kernel_rfl
theorem b2z (L : List Lf) (m : Nat) (x : List Lf) : a2M N L (m + 1) x = a19 N L x (a2M N L m) some := by kernel_rfl
noncomputable def b2A : Sg Try.prog 0 44 :=
 (b2y N).lp (b55 N) N a0b (T70x0_ok N) (fun m kn L x => (a6o N m kn L x).trans (a4V N L x _ _)) (fun L m x => (b2z N L m x).trans (a4V N L x (a2M N L m) some)) fun L x hx => a0D x hx
noncomputable def F44x0 (v3 : Bool) (v4 : LD) (v5 : Bool) (v6 : LD) (k0 : Bool × LD × Bool × LD → Option R) : Option R :=
 bnd (G68x0 N v5 v6) fun y0 =>
 bif y0.isSome then
  bnd (G44x0x7 N v3 v4) fun y1 =>
  bif (a07 y1) then
   k0 (true, [], (y0.getD default).1, (y0.getD default).2)
  else
   bif (a0I y1).isSome then
    bnd (G44x0x12 N (v4.length : Int) 0 v4) fun y2 =>
    bif y2.isSome then
     k0 (((a0I y1).getD default), (y2.getD default), (y0.getD default).1, (y0.getD default).2)
    else
     none
   else
    none
 else
  none
noncomputable def G44x0 (v3 : Bool) (v4 : LD) (v5 : Bool) (v6 : LD) : Option (Bool × LD × Bool × LD) := F44x0 N v3 v4 v5 v6 (fun p => some p)
theorem bind44x0 (v3 : Bool) (v4 : LD) (v5 : Bool) (v6 : LD) (k0 : Bool × LD × Bool × LD → Option R) : F44x0 N v3 v4 v5 v6 k0 = (G44x0 N v3 v4 v5 v6).bind k0 := by
 unfold G44x0 F44x0
 repeat' (first | with_reducible apply a0d | (with_reducible apply a0l; intro _) | rfl)
noncomputable def c9g (L : List Lf) (k0 : Bool × LD × Bool × LD → Option R) : Option R := F44x0 N (lb L 3) (ll L 4) (lb L 5) (ll L 6) k0
noncomputable def sh44x0 : Sh := { tmps := [(0, .g ([.i .i64, .i .i64, .i .i64, .sl 44, .sl 5]))], mem := [] }
noncomputable def b2B (L : List Lf) (p : Bool × LD × Bool × LD) : Res := ([.g [.i .i64 (li L 0), .i .i64 (li L 1), .i .i64 (li L 2), .sl 44 p.1 p.2.1, .sl 5 p.2.2.1 p.2.2.2]], [])
noncomputable def c9h (L : List Lf) : List (Bool × Res) := bnd (c9g N L (fun p => some p)) fun q => [(q.isSome, b2B L (q.getD default))]
theorem raw44x0 (L : List Lf) : bd Try.prog (T70x0 N) (b2A N).h 44 sh44x0 L = c9g N L (fun p => some (b2B L p)) := by kernel_rfl
theorem c9i : a0t Try.prog 44 sh44x0 (c9h N) :=
 (b2A N).fn a0b (T70x0_ok N) fun L x hx => ((raw44x0 N L).trans ((bind44x0 N ..).trans (a0D x hx)))
noncomputable def c5u : a0e := ext 44 (a1b sh44x0 (c9h N)) (T70x0 N)
theorem a94 : a0c Try.prog (c5u N) := a0t.to (c9i N) (T70x0_ok N)

end Ce
end Go.Proofs.Ytfogaejiehebeaa

set_option linter.unusedVariables false
set_option linter.unusedSimpArgs false
set_option maxRecDepth 100000
namespace Go.Proofs.Ytfogaejiehebeaa
open Go Go.AM
namespace Ce
namespace Hd
abbrev LD : Type := List D
abbrev LB : Type := List UInt8
variable (N : Nat) {R : Type}
noncomputable def c82 : List (Nat × List Nat) := [(0, [0]), (1, [0]), (2, []), (3, [0])]
noncomputable def c83 : a0r := []
noncomputable def b2o (N : Nat) : Sg Try.prog 0 68 := .start c83 c82 true
noncomputable def F68x0 (N : Nat) (v0 : Bool) (v1 : LD) (k0 : Unit → Option R) (k1 : Bool → Option R) : Option R :=
 bif v0 then
  k0 ()
 else
  bif (decide ((0 + v1.length) * 1 ≤ a1j) && decide ((0 + v1.length) ≤ a0i)) then
   k1 (v1.isEmpty && false)
  else
   none
noncomputable def G68x0 (v0 : Bool) (v1 : LD) : Option (Sum (Unit) (Bool)) := F68x0 N v0 v1 (fun p => some (.inl p)) (fun p => some (.inr p))
theorem b51 (v0 : Bool) (v1 : LD) (k0 : Unit → Option R) (k1 : Bool → Option R) : F68x0 N v0 v1 k0 k1 = (G68x0 N v0 v1).bind (a1a k0 k1) := by
 unfold G68x0 F68x0
 repeat' (first | with_reducible apply a0d | (with_reducible apply a0l; intro _) | rfl)
noncomputable def b2p : Sh := { tmps := [(0, .c (.sl 5))], mem := [] }
noncomputable def c84 (L : List Lf) : List (Bool × Res) := bnd (F68x0 N (lb L 0) (ll L 1) (fun p => some (.inl p)) (fun p => some (.inr p))) fun q => [((a07 q), ([.c (.sl 5 true [])], [])), ((a0I q).isSome, ([.c (.o 7)], [(7, .row 5 true ((a0I q).getD default) (ll L 1))]))]
theorem c1l (L : List Lf) : bd Try.prog a3o (b2o N).h 68 b2p L = F68x0 N (lb L 0) (ll L 1) (fun _ => some ([.c (.sl 5 true [])], [])) (fun p => some ([.c (.o 7)], [(7, .row 5 true p (ll L 1))])) := by kernel_rfl
theorem c85 : a0t Try.prog 68 b2p (c84 N) :=
 (b2o N).fn a0b a1S fun L x hx => ((c1l N L).trans ((b51 N ..).trans ((a3w a0D) x hx)))
noncomputable def c1m : a0e := ext 68 (a1b b2p (c84 N)) a3o
theorem a62 : a0c Try.prog (c1m N) := a0t.to (c85 N) a1S
noncomputable def c86 : List (Nat × List Nat) := [(0, [0]), (1, [0]), (2, []), (3, [0])]
noncomputable def c87 : a0r := []
noncomputable def b2q (N : Nat) : Sg Try.prog 0 69 := .start c87 c86 true
noncomputable def b2r (N : Nat) (v0 : Bool) (v1 : LD) (k0 : Unit → Option R) (k1 : Bool → Option R) : Option R :=
 bif v0 then
  k0 ()
 else
  bif (decide ((0 + v1.length) * 40 ≤ a1j) && decide ((0 + v1.length) ≤ a0i)) then
   k1 (v1.isEmpty && false)
  else
   none
noncomputable def b85 (v0 : Bool) (v1 : LD) : Option (Sum (Unit) (Bool)) := b2r N v0 v1 (fun p => some (.inl p)) (fun p => some (.inr p))
theorem b52 (v0 : Bool) (v1 : LD) (k0 : Unit → Option R) (k1 : Bool → Option R) : b2r N v0 v1 k0 k1 = (b85 N v0 v1).bind (a1a k0 k1) := by
 unfold b85 b2r
 repeat' (first | with_reducible apply a0d | (with_reducible apply a0l; intro _) | rfl)
noncomputable def b2s : Sh := { tmps := [(0, .c (.sl 44))], mem := [] }
noncomputable def c88 (L : List Lf) : List (Bool × Res) := bnd (b2r N (lb L 0) (ll L 1) (fun p => some (.inl p)) (fun p => some (.inr p))) fun q => [((a07 q), ([.c (.sl 44 true [])], [])), ((a0I q).isSome, ([.c (.o 7)], [(7, .row 44 true ((a0I q).getD default) (ll L 1))]))]
theorem c1n (L : List Lf) : bd Try.prog (c1m N) (b2q N).h 69 b2s L = b2r N (lb L 0) (ll L 1) (fun _ => some ([.c (.sl 44 true [])], [])) (fun p => some ([.c (.o 7)], [(7, .row 44 true p (ll L 1))])) := by kernel_rfl
theorem c89 : a0t Try.prog 69 b2s (c88 N) :=
 (b2q N).fn a0b (a62 N) fun L x hx => ((c1n N L).trans ((b52 N ..).trans ((a3w a0D) x hx)))
noncomputable def c1o : a0e := ext 69 (a1b b2s (c88 N)) (c1m N)
theorem a63 : a0c Try.prog (c1o N) := a0t.to (c89 N) (a62 N)
noncomputable def c9a : List (Nat × List Nat) := [(0, [0]), (1, [0]), (2, []), (3, [0])]
noncomputable def c9b : a0r := []
noncomputable def b2t (N : Nat) : Sg Try.prog 0 70 := .start c9b c9a true
noncomputable def F70x0 (N : Nat) (v0 : Bool) (v1 : LD) (k0 : Unit → Option R) (k1 : Bool → Option R) : Option R :=
 bif v0 then
  k0 ()
 else
  bif (decide ((0 + v1.length) * 24 ≤ a1j) && decide ((0 + v1.length) ≤ a0i)) then
   k1 (v1.isEmpty && false)
  else
   none
noncomputable def G70x0 (v0 : Bool) (v1 : LD) : Option (Sum (Unit) (Bool)) := F70x0 N v0 v1 (fun p => some (.inl p)) (fun p => some (.inr p))
theorem b53 (v0 : Bool) (v1 : LD) (k0 : Unit → Option R) (k1 : Bool → Option R) : F70x0 N v0 v1 k0 k1 = (G70x0 N v0 v1).bind (a1a k0 k1) := by
 unfold G70x0 F70x0
 repeat' (first | with_reducible apply a0d | (with_reducible apply a0l; intro _) | rfl)
noncomputable def b2u : Sh := { tmps := [(0, .c (.sl 61))], mem := [] }
noncomputable def c9c (L : List Lf) : List (Bool × Res) := bnd (F70x0 N (lb L 0) (ll L 1) (fun p => some (.inl p)) (fun p => some (.inr p))) fun q => [((a07 q), ([.c (.sl 61 true [])], [])), ((a0I q).isSome, ([.c (.o 7)], [(7, .row 61 true ((a0I q).getD default) (ll L 1))]))]
theorem c1p (L : List Lf) : bd Try.prog (c1o N) (b2t N).h 70 b2u L = F70x0 N (lb L 0) (ll L 1) (fun _ => some ([.c (.sl 61 true [])], [])) (fun p => some ([.c (.o 7)], [(7, .row 61 true p (ll L 1))])) := by kernel_rfl
theorem c9d : a0t Try.prog 70 b2u (c9c N) :=
 (b2t N).fn a0b (a63 N) fun L x hx => ((c1p N L).trans ((b53 N ..).trans ((a3w a0D) x hx)))
noncomputable def T70x0 : a0e := ext 70 (a1b b2u (c9c N)) (c1o N)
theorem T70x0_ok : a0c Try.prog (T70x0 N) := a0t.to (c9d N) (a63 N)
noncomputable def c9e : List (Nat × List Nat) := [(0, [0]), (1, [1, 2]), (2, [1, 2]), (3, [1, 2]), (4, [15, 14, 1, 2]), (5, [15, 1, 14, 2]), (6, [1, 3, 15, 14, 2]), (7, [15, 14, 1, 2]), (8, [1, 2])]
noncomputable def c9f : a0r := [(4, [1, 2], [1, 2], []), (7, [1, 2], [1, 2, 7000000007], []), (12, [1, 2, 14, 15], [1, 2, 7000000007, 11000000007], []), (19, [1, 2, 3, 14, 15], [1, 2, 7000000007, 11000000007], [])]
noncomputable def b2v (N : Nat) : Sg Try.prog 0 44 := .start c9f c9e true
noncomputable def F44x0x4 (w5 : Bool) (w6 : LD) (k0 : Unit → Option R) (k1 : Bool → Option R) : Option R :=
 bnd (G68x0 N w5 w6) fun y0 =>
 bif (a07 y0) then
  k0 ()
 else
  bif (a0I y0).isSome then
   k1 ((a0I y0).getD default)
  else
   none
noncomputable def G44x0x4 (w5 : Bool) (w6 : LD) : Option (Sum (Unit) (Bool)) := F44x0x4 N w5 w6 (fun p => some (.inl p)) (fun p => some (.inr p))
theorem c5v (w5 : Bool) (w6 : LD) (k0 : Unit → Option R) (k1 : Bool → Option R) : F44x0x4 N w5 w6 k0 k1 = (G44x0x4 N w5 w6).bind (a1a k0 k1) := by
 unfold G44x0x4 F44x0x4
 repeat' (first | with_reducible apply a0d | (with_reducible apply a0l; intro _) | rfl)
noncomputable def b56 : Sh := { tmps := [(1, .c (.p 1 0)), (2, .c (.p 2 0))], mem := [(1, .box ([.i .i64, .i .i64, .i .i64, .sl 44, .sl 5])), (2, .box ([.i .i64, .i .i64, .i .i64, .sl 44, .sl 5]))] }
noncomputable def b86 (L : List Lf) (_ : Unit) : Ex × St := (.normal, mg (a0x b56 L) [1, 2] [] [1, 2] [(1, .box [.i .i64 (li L 0), .i .i64 (li L 1), .i .i64 (li L 2), .sl 44 (lb L 3) (ll L 4), .sl 5 true []])])
noncomputable def b87 (L : List Lf) (p : Bool) : Ex × St := (.normal, mg (a0x b56 L) [1, 2] [] [1, 2, 7000000007] [(1, .box [.i .i64 (li L 0), .i .i64 (li L 1), .i .i64 (li L 2), .sl 44 (lb L 3) (ll L 4), .o 7000000007]), (7000000007, .row 5 true p (ll L 6))])
noncomputable def e09 (L : List Lf) : List (Bool × (Ex × St)) := bnd (F44x0x4 N (lb L 5) (ll L 6) (fun p => some (.inl p)) (fun p => some (.inr p))) fun q => [((a07 q), b86 L ()), ((a0I q).isSome, b87 L ((a0I q).getD default))]
theorem c9j (L : List Lf) : pc Try.prog (T70x0 N) (b2v N).h 0 100 44 4 b56 L [1, 2] [1, 2, 7000000007] = F44x0x4 N (lb L 5) (ll L 6) (fun _ => some (b86 L ())) (fun p => some (b87 L p)) := by kernel_rfl
noncomputable def b2x : Sg Try.prog 0 44 :=
 (b2v N).cut (e09 N) a0b (T70x0_ok N) fun L x hx => (c9j N L).trans ((c5v N ..).trans ((a3w a0D) x hx))
noncomputable def a23 (w3 : Bool) (w4 : LD) (k0 : Unit → Option R) (k1 : Bool → Option R) : Option R :=
 bnd (b85 N w3 w4) fun y0 =>
 bif (a07 y0) then
  k0 ()
 else
  bif (a0I y0).isSome then
   k1 ((a0I y0).getD default)
  else
   none
noncomputable def G44x0x7 (w3 : Bool) (w4 : LD) : Option (Sum (Unit) (Bool)) := a23 N w3 w4 (fun p => some (.inl p)) (fun p => some (.inr p))
theorem a8W (w3 : Bool) (w4 : LD) (k0 : Unit → Option R) (k1 : Bool → Option R) : a23 N w3 w4 k0 k1 = (G44x0x7 N w3 w4).bind (a1a k0 k1) := by
 unfold G44x0x7 a23
 repeat' (first | with_reducible apply a0d | (with_reducible apply a0l; intro _) | rfl)
noncomputable def a31 : Sh := { tmps := [(1, .c (.p 1 0)), (2, .c (.p 2 0))], mem := [(1, .box ([.i .i64, .i .i64, .i .i64, .sl 44, .sl 5])), (2, .box ([.i .i64, .i .i64, .i .i64, .sl 44, .sl 5]))] }
noncomputable def a4S (L : List Lf) (_ : Unit) : Ex × St := (.normal, mg (a0x a31 L) [1, 2] [] [1, 2] [(1, .box [.i .i64 (li L 0), .i .i64 (li L 1), .i .i64 (li L 2), .sl 44 true [], .sl 5 (lb L 5) (ll L 6)])])
noncomputable def a4T (L : List Lf) (p : Bool) : Ex × St := (.normal, mg (a0x a31 L) [1, 2] [] [1, 2, 11000000007] [(1, .box [.i .i64 (li L 0), .i .i64 (li L 1), .i .i64 (li L 2), .o 11000000007, .sl 5 (lb L 5) (ll L 6)]), (11000000007, .row 44 true p (ll L 4))])
noncomputable def c1q (L : List Lf) : List (Bool × (Ex × St)) := bnd (a23 N (lb L 3) (ll L 4) (fun p => some (.inl p)) (fun p => some (.inr p))) fun q => [((a07 q), a4S L ()), ((a0I q).isSome, a4T L ((a0I q).getD default))]
theorem b2w (L : List Lf) : pc Try.prog (T70x0 N) (b2x N).h 0 100 44 7 a31 L [1, 2] [1, 2, 11000000007] = a23 N (lb L 3) (ll L 4) (fun _ => some (a4S L ())) (fun p => some (a4T L p)) := by kernel_rfl
noncomputable def b2y : Sg Try.prog 0 44 :=
 (b2x N).cut (c1q N) a0b (T70x0_ok N) fun L x hx => (b2w N L).trans ((a8W N ..).trans ((a3w a0D) x hx))
noncomputable def F44x0x19 (w0 : Int) (w16 : LD) (k0 : LD → Option R) : Option R :=
 bif (inB w0 w16.length) then
  bif (decide (w0.toNat < w16.length)) then
   bnd (G70x0 N ((w16.getD w0.toNat (.i 0)).cell 2).isNil ((w16.getD w0.toNat (.i 0)).cell 2).items) fun y0 =>
   bif (a07 y0) then
    bif (inB w0 w16.length) then
     bif (decide (w0.toNat < w16.length)) then
      bnd ((w16.set w0.toNat (.a [(.b ((w16.getD w0.toNat (.i 0)).cell 0).toB), (.i ((w16.getD w0.toNat (.i 0)).cell 1).toI), (.l true [])])) : List D) fun y1 =>
      k0 y1
     else
      none
    else
     none
   else
    bif (a0I y0).isSome then
     bif (inB w0 w16.length) then
      bif (decide (w0.toNat < w16.length)) then
       bnd ((w16.set w0.toNat (.a [(.b ((w16.getD w0.toNat (.i 0)).cell 0).toB), (.i ((w16.getD w0.toNat (.i 0)).cell 1).toI), (.l ((a0I y0).getD default) ((w16.getD w0.toNat (.i 0)).cell 2).items)])) : List D) fun y2 =>
       k0 y2
      else
       none
     else
      none
    else
     none
  else
   none
 else
  none
noncomputable def G44x0x19 (w0 : Int) (w16 : LD) : Option (LD) := F44x0x19 N w0 w16 (fun p => some p)
theorem a6n (w0 : Int) (w16 : LD) (k0 : LD → Option R) : F44x0x19 N w0 w16 k0 = (G44x0x19 N w0 w16).bind k0 := by
 unfold G44x0x19 F44x0x19
 repeat' (first | with_reducible apply a0d | (with_reducible apply a0l; intro _) | rfl)
noncomputable def a4U : Sh := { tmps := [(1, .c (.p 1 0)), (2, .c (.p 2 0)), (3, .c (.i .i64)), (14, .c (.i .i64)), (15, .c (.i .i64))], mem := [(1, .box ([.i .i64, .i .i64, .i .i64, .o 11000000007, .sl 5])), (2, .box ([.i .i64, .i .i64, .i .i64, .sl 44, .sl 5])), (11000000007, .row 44 true)] }
noncomputable def a3I (L : List Lf) (p : LD) : Ex × St := (.normal, mg (a0x a4U L) [1, 2, 14, 15] [] [1, 2, 11000000007] [(11000000007, .row 44 true (lb L 15) p)])
noncomputable def b54 (L : List Lf) : List (Bool × (Ex × St)) := bnd (F44x0x19 N (li L 0) (ll L 16) (fun p => some p)) fun q => [(q.isSome, a3I L (q.getD default))]
theorem a8X (L : List Lf) : pc Try.prog (T70x0 N) (b2y N).h 0 100 44 19 a4U L [1, 2, 14, 15] [1, 2, 11000000007] = F44x0x19 N (li L 0) (ll L 16) (fun p => some (a3I L p)) := by kernel_rfl
noncomputable def b2A : Sg Try.prog 0 44 :=
 (b2y N).cut (b54 N) a0b (T70x0_ok N) fun L x hx => (a8X N L).trans ((a6n N ..).trans (a0D x hx))
noncomputable def a32 (w0 : Int) (w1 : Int) (w15 : LD) (kr : Int → LD → Option R) (k0 : LD → Option R) : Option R :=
 bif (decide (w1 < w0)) then
  bnd (G44x0x19 N w1 w15) fun y0 =>
  bif y0.isSome then
   kr (IntKind.wrap .i64 (w1 + 1)) (y0.getD default)
  else
   none
 else
  k0 w15
noncomputable def a33 (N : Nat) {R : Type} (w0 : Int) : Nat → Int → LD → (LD → Option R) → Option R
 | 0, _, _, _ => none
 | m + 1, w1, w15, k0 => a32 N w0 w1 w15 (fun w1 w15 => a33 N w0 m w1 w15 k0) k0
noncomputable def G44x0x12 (w0 : Int) (w1 : Int) (w15 : LD) : Option (LD) := a33 N (R := (LD)) w0 N w1 w15 (fun p => some p)
noncomputable def a19 (L x : List Lf) (kr : List Lf → Option R) (k0 : LD → Option R) : Option R := a32 N (li L 0) (li x 0) (ll x 1) (fun w1 w15 => kr [.i w1, .l w15]) k0
theorem a4V (L x : List Lf) (kr : List Lf → Option R) (k0 : LD → Option R) : a19 N L x kr k0 = (a19 N L x (fun y => some (.inl y)) (fun p => some (.inr p))).bind (a1a kr k0) := by
 unfold a19 a32
 repeat' (first | with_reducible apply a0d | (with_reducible apply a0l; intro _) | rfl)
noncomputable def a2M (L : List Lf) (m : Nat) (x : List Lf) : Option (LD) := a33 N (R := (LD)) (li L 0) m (li x 0) (ll x 1) (fun p => some p)
noncomputable def a1B : Sh := { tmps := [(1, .c (.p 1 0)), (2, .c (.p 2 0)), (14, .c (.i .i64)), (15, .c (.i .i64))], mem := [(1, .box ([.i .i64, .i .i64, .i .i64, .o 11000000007, .sl 5])), (2, .box ([.i .i64, .i .i64, .i .i64, .sl 44, .sl 5])), (11000000007, .row 44 true)] }
noncomputable def a3J (L : List Lf) (p : LD) : Ex × St := ((.exit 0), mg (a0x a1B L) [1, 2] [] [1, 2, 11000000007] [(11000000007, .row 44 true (lb L 14) p)])
noncomputable def b55 (L : List Lf) : List (Bool × (Ex × St)) := bnd (a2M N L N (pk a1B [1, 15] L)) fun q => [(q.isSome, a3J L (q.getD default))]
theorem a6o (m : Nat) (kn : St → Option (Ex × St)) (L x : List Lf) : lpB Try.prog (T70x0 N) (b2A N).h 0 44 12 a1B [1, 15] [1, 2] [1, 2, 11000000007] (m + 100) kn L x = a19 N L x (fun y => kn (a0x a1B (mx a1B [1, 15] L y))) (fun p => some (a3J L p)) := by kernel_rfl
theorem b2z (L : List Lf) (m : Nat) (x : List Lf) : a2M N L (m + 1) x = a19 N L x (a2M N L m) some := by kernel_rfl
noncomputable def c1r : Sg Try.prog 0 44 :=
 (b2A N).lp (b55 N) N a0b (T70x0_ok N) (fun m kn L x => (a6o N m kn L x).trans (a4V N L x _ _)) (fun L m x => (b2z N L m x).trans (a4V N L x (a2M N L m) some)) fun L x hx => a0D x hx
noncomputable def a64 (w3 : Bool) (w4 : LD) (k0 : Unit → Option R) (k1 : Bool → Option R) : Option R :=
 bnd (b85 N w3 w4) fun y0 =>
 bif (a07 y0) then
  k0 ()
 else
  bif (a0I y0).isSome then
   k1 ((a0I y0).getD default)
  else
   none
noncomputable def b57 (w3 : Bool) (w4 : LD) : Option (Sum (Unit) (Bool)) := a64 N w3 w4 (fun p => some (.inl p)) (fun p => some (.inr p))
theorem c1s (w3 : Bool) (w4 : LD) (k0 : Unit → Option R) (k1 : Bool → Option R) : a64 N w3 w4 k0 k1 = (b57 N w3 w4).bind (a1a k0 k1) := by
 unfold b57 a64
 repeat' (first | with_reducible apply a0d | (with_reducible apply a0l; intro _) | rfl)
noncomputable def b2C : Sh := { tmps := [(1, .c (.p 1 0)), (2, .c (.p 2 0))], mem := [(1, .box ([.i .i64, .i .i64, .i .i64, .sl 44, .o 7000000007])), (2, .box ([.i .i64, .i .i64, .i .i64, .sl 44, .sl 5])), (7000000007, .row 5 true)] }
noncomputable def b4y (L : List Lf) (_ : Unit) : Ex × St := (.normal, mg (a0x b2C L) [1, 2] [] [1, 2, 7000000007] [(1, .box [.i .i64 (li L 0), .i .i64 (li L 1), .i .i64 (li L 2), .sl 44 true [], .o 7000000007])])
noncomputable def b4z (L : List Lf) (p : Bool) : Ex × St := (.normal, mg (a0x b2C L) [1, 2] [] [1, 2, 7000000007, 11000000007] [(1, .box [.i .i64 (li L 0), .i .i64 (li L 1), .i .i64 (li L 2), .o 11000000007, .o 7000000007]), (11000000007, .row 44 true p (ll L 4))])
noncomputable def d6m (L : List Lf) : List (Bool × (Ex × St)) := bnd (a64 N (lb L 3) (ll L 4) (fun p => some (.inl p)) (fun p => some (.inr p))) fun q => [((a07 q), b4y L ()), ((a0I q).isSome, b4z L ((a0I q).getD default))]
theorem c5w (L : List Lf) : pc Try.prog (T70x0 N) ((c1r N).no 7).h 0 100 44 7 b2C L [1, 2] [1, 2, 7000000007, 11000000007] = a64 N (lb L 3) (ll L 4) (fun _ => some (b4y L ())) (fun p => some (b4z L p)) := by kernel_rfl
noncomputable def c1t : Sg Try.prog 0 44 :=
 (c1r N).add (((c1r N).no 7).cut (d6m N) a0b (T70x0_ok N) fun L x hx => (c5w N L).trans ((c1s N ..).trans ((a3w a0D) x hx))) 7
noncomputable def a4W (w0 : Int) (w16 : LD) (k0 : LD → Option R) : Option R :=
 bif (inB w0 w16.length) then
  bif (decide (w0.toNat < w16.length)) then
   bnd (G70x0 N ((w16.getD w0.toNat (.i 0)).cell 2).isNil ((w16.getD w0.toNat (.i 0)).cell 2).items) fun y0 =>
   bif (a07 y0) then
    bif (inB w0 w16.length) then
     bif (decide (w0.toNat < w16.length)) then
      bnd ((w16.set w0.toNat (.a [(.b ((w16.getD w0.toNat (.i 0)).cell 0).toB), (.i ((w16.getD w0.toNat (.i 0)).cell 1).toI), (.l true [])])) : List D) fun y1 =>
      k0 y1
     else
      none
    else
     none
   else
    bif (a0I y0).isSome then
     bif (inB w0 w16.length) then
      bif (decide (w0.toNat < w16.length)) then
       bnd ((w16.set w0.toNat (.a [(.b ((w16.getD w0.toNat (.i 0)).cell 0).toB), (.i ((w16.getD w0.toNat (.i 0)).cell 1).toI), (.l ((a0I y0).getD default) ((w16.getD w0.toNat (.i 0)).cell 2).items)])) : List D) fun y2 =>
       k0 y2
      else
       none
     else
      none
    else
     none
  else
   none
 else
  none
noncomputable def b2D (w0 : Int) (w16 : LD) : Option (LD) := a4W N w0 w16 (fun p => some p)
theorem b88 (w0 : Int) (w16 : LD) (k0 : LD → Option R) : a4W N w0 w16 k0 = (b2D N w0 w16).bind k0 := by
 unfold b2D a4W
 repeat' (first | with_reducible apply a0d | (with_reducible apply a0l; intro _) | rfl)
noncomputable def b4A : Sh := { tmps := [(1, .c (.p 1 0)), (2, .c (.p 2 0)), (3, .c (.i .i64)), (14, .c (.i .i64)), (15, .c (.i .i64))], mem := [(1, .box ([.i .i64, .i .i64, .i .i64, .o 11000000007, .o 7000000007])), (2, .box ([.i .i64, .i .i64, .i .i64, .sl 44, .sl 5])), (7000000007, .row 5 true), (11000000007, .row 44 true)] }
noncomputable def b2E (L : List Lf) (p : LD) : Ex × St := (.normal, mg (a0x b4A L) [1, 2, 14, 15] [] [1, 2, 7000000007, 11000000007] [(11000000007, .row 44 true (lb L 15) p)])
noncomputable def c9k (L : List Lf) : List (Bool × (Ex × St)) := bnd (a4W N (li L 0) (ll L 16) (fun p => some p)) fun q => [(q.isSome, b2E L (q.getD default))]
theorem c1u (L : List Lf) : pc Try.prog (T70x0 N) ((c1t N).no 19).h 0 100 44 19 b4A L [1, 2, 14, 15] [1, 2, 7000000007, 11000000007] = a4W N (li L 0) (ll L 16) (fun p => some (b2E L p)) := by kernel_rfl
noncomputable def c1v : Sg Try.prog 0 44 :=
 (c1t N).add (((c1t N).no 19).cut (c9k N) a0b (T70x0_ok N) fun L x hx => (c1u N L).trans ((b88 N ..).trans (a0D x hx))) 19
noncomputable def b2F (w0 : Int) (w1 : Int) (w15 : LD) (kr : Int → LD → Option R) (k0 : LD → Option R) : Option R :=
 bif (decide (w1 < w0)) then
  bnd (b2D N w1 w15) fun y0 =>
  bif y0.isSome then
   kr (IntKind.wrap .i64 (w1 + 1)) (y0.getD default)
  else
   none
 else
  k0 w15
noncomputable def b2G (N : Nat) {R : Type} (w0 : Int) : Nat → Int → LD → (LD → Option R) → Option R
 | 0, _, _, _ => none
 | m + 1, w1, w15, k0 => b2F N w0 w1 w15 (fun w1 w15 => b2G N w0 m w1 w15 k0) k0
noncomputable def c9l (w0 : Int) (w1 : Int) (w15 : LD) : Option (LD) := b2G N (R := (LD)) w0 N w1 w15 (fun p => some p)
noncomputable def a4X (L x : List Lf) (kr : List Lf → Option R) (k0 : LD → Option R) : Option R := b2F N (li L 0) (li x 0) (ll x 1) (fun w1 w15 => kr [.i w1, .l w15]) k0
theorem b4B (L x : List Lf) (kr : List Lf → Option R) (k0 : LD → Option R) : a4X N L x kr k0 = (a4X N L x (fun y => some (.inl y)) (fun p => some (.inr p))).bind (a1a kr k0) := by
 unfold a4X b2F
 repeat' (first | with_reducible apply a0d | (with_reducible apply a0l; intro _) | rfl)
noncomputable def a65 (L : List Lf) (m : Nat) (x : List Lf) : Option (LD) := b2G N (R := (LD)) (li L 0) m (li x 0) (ll x 1) (fun p => some p)
noncomputable def a3K : Sh := { tmps := [(1, .c (.p 1 0)), (2, .c (.p 2 0)), (14, .c (.i .i64)), (15, .c (.i .i64))], mem := [(1, .box ([.i .i64, .i .i64, .i .i64, .o 11000000007, .o 7000000007])), (2, .box ([.i .i64, .i .i64, .i .i64, .sl 44, .sl 5])), (7000000007, .row 5 true), (11000000007, .row 44 true)] }
noncomputable def b2H (L : List Lf) (p : LD) : Ex × St := ((.exit 0), mg (a0x a3K L) [1, 2] [] [1, 2, 7000000007, 11000000007] [(11000000007, .row 44 true (lb L 14) p)])
noncomputable def c9m (L : List Lf) : List (Bool × (Ex × St)) := bnd (a65 N L N (pk a3K [1, 15] L)) fun q => [(q.isSome, b2H L (q.getD default))]
theorem b89 (m : Nat) (kn : St → Option (Ex × St)) (L x : List Lf) : lpB Try.prog (T70x0 N) ((c1v N).no 12).h 0 44 12 a3K [1, 15] [1, 2] [1, 2, 7000000007, 11000000007] (m + 100) kn L x = a4X N L x (fun y => kn (a0x a3K (mx a3K [1, 15] L y))) (fun p => some (b2H L p)) := by kernel_rfl
theorem c5x (L : List Lf) (m : Nat) (x : List Lf) : a65 N L (m + 1) x = a4X N L x (a65 N L m) some := by kernel_rfl
noncomputable def h44x0s7 : Sg Try.prog 0 44 :=
 (c1v N).add (((c1v N).no 12).lp (c9m N) N a0b (T70x0_ok N) (fun m kn L x => (b89 N m kn L x).trans (b4B N L x _ _)) (fun L m x => (c5x N L m x).trans (b4B N L x (a65 N L m) some)) fun L x hx => a0D x hx) 12
noncomputable def F44x0 (v3 : Bool) (v4 : LD) (v5 : Bool) (v6 : LD) (k0 : Unit → Option R) (k1 : Bool × LD → Option R) (k2 : Bool → Option R) (k3 : Bool × Bool × LD → Option R) : Option R :=
 bnd (G44x0x4 N v5 v6) fun y0 =>
 bif (a07 y0) then
  bnd (G44x0x7 N v3 v4) fun y1 =>
  bif (a07 y1) then
   k0 ()
  else
   bif (a0I y1).isSome then
    bnd (G44x0x12 N (v4.length : Int) 0 v4) fun y2 =>
    bif y2.isSome then
     k1 (((a0I y1).getD default), (y2.getD default))
    else
     none
   else
    none
 else
  bif (a0I y0).isSome then
   bnd (b57 N v3 v4) fun y3 =>
   bif (a07 y3) then
    k2 ((a0I y0).getD default)
   else
    bif (a0I y3).isSome then
     bnd (c9l N (v4.length : Int) 0 v4) fun y4 =>
     bif y4.isSome then
      k3 (((a0I y0).getD default), ((a0I y3).getD default), (y4.getD default))
     else
      none
    else
     none
  else
   none
noncomputable def G44x0 (v3 : Bool) (v4 : LD) (v5 : Bool) (v6 : LD) : Option (Sum (Unit) (Sum (Bool × LD) (Sum (Bool) (Bool × Bool × LD)))) := F44x0 N v3 v4 v5 v6 (fun p => some (.inl p)) (fun p => some (.inr (.inl p))) (fun p => some (.inr (.inr (.inl p)))) (fun p => some (.inr (.inr (.inr p))))
theorem bind44x0 (v3 : Bool) (v4 : LD) (v5 : Bool) (v6 : LD) (k0 : Unit → Option R) (k1 : Bool × LD → Option R) (k2 : Bool → Option R) (k3 : Bool × Bool × LD → Option R) : F44x0 N v3 v4 v5 v6 k0 k1 k2 k3 = (G44x0 N v3 v4 v5 v6).bind (a1a k0 (a1a k1 (a1a k2 k3))) := by
 unfold G44x0 F44x0
 repeat' (first | with_reducible apply a0d | (with_reducible apply a0l; intro _) | rfl)
noncomputable def c9g (L : List Lf) (k0 : Unit → Option R) (k1 : Bool × LD → Option R) (k2 : Bool → Option R) (k3 : Bool × Bool × LD → Option R) : Option R := F44x0 N (lb L 3) (ll L 4) (lb L 5) (ll L 6) k0 k1 k2 k3
noncomputable def sh44x0 : Sh := { tmps := [(0, .g ([.i .i64, .i .i64, .i .i64, .sl 44, .sl 5]))], mem := [] }
noncomputable def b2B (L : List Lf) (_ : Unit) : Res := ([.g [.i .i64 (li L 0), .i .i64 (li L 1), .i .i64 (li L 2), .sl 44 true [], .sl 5 true []]], [])
noncomputable def c9n (L : List Lf) (p : Bool × LD) : Res := ([.g [.i .i64 (li L 0), .i .i64 (li L 1), .i .i64 (li L 2), .o 11000000007, .sl 5 true []]], [(11000000007, .row 44 true p.1 p.2)])
noncomputable def c9o (L : List Lf) (p : Bool) : Res := ([.g [.i .i64 (li L 0), .i .i64 (li L 1), .i .i64 (li L 2), .sl 44 true [], .o 7000000007]], [(7000000007, .row 5 true p (ll L 6))])
noncomputable def c9p (L : List Lf) (p : Bool × Bool × LD) : Res := ([.g [.i .i64 (li L 0), .i .i64 (li L 1), .i .i64 (li L 2), .o 11000000007, .o 7000000007]], [(7000000007, .row 5 true p.1 (ll L 6)), (11000000007, .row 44 true p.2.1 p.2.2)])
noncomputable def c9h (L : List Lf) : List (Bool × Res) := bnd (c9g N L (fun p => some (.inl p)) (fun p => some (.inr (.inl p))) (fun p => some (.inr (.inr (.inl p)))) (fun p => some (.inr (.inr (.inr p))))) fun q => [((a07 q), b2B L ()), ((a07 (a0I q)), c9n L (a3p (a0I q))), ((a07 (a0I (a0I q))), c9o L (a3p (a0I (a0I q)))), ((a0I (a0I (a0I q))).isSome, c9p L ((a0I (a0I (a0I q))).getD default))]
theorem raw44x0 (L : List Lf) : bd Try.prog (T70x0 N) (h44x0s7 N).h 44 sh44x0 L = c9g N L (fun _ => some (b2B L ())) (fun p => some (c9n L p)) (fun p => some (c9o L p)) (fun p => some (c9p L p)) := by kernel_rfl
theorem c9i : a0t Try.prog 44 sh44x0 (c9h N) :=
 (h44x0s7 N).fn a0b (T70x0_ok N) fun L x hx => ((raw44x0 N L).trans ((bind44x0 N ..).trans ((a3w (a3w (a3w a0D))) x hx)))
noncomputable def c5u : a0e := ext 44 (a1b sh44x0 (c9h N)) (T70x0 N)
theorem a94 : a0c Try.prog (c5u N) := a0t.to (c9i N) (T70x0_ok N)
end Hd
end Ce
end Go.Proofs.Ytfogaejiehebeaa

set_option linter.unusedVariables false
set_option linter.unusedSimpArgs false
set_option maxRecDepth 100000
namespace Go.Proofs.Ytfogaejiehebeaa
open Go Go.AM
namespace Ce
noncomputable def H44 (N : Nat) (v3 : Bool) (v4 : List D) (v5 : Bool) (v6 : List D) : Option (Bool × List D × Bool) := (Hd.G44x0 N v3 v4 v5 v6).bind fun
 | .inr (.inr (.inl b)) => some (true, [], b)
 | .inr (.inr (.inr p)) => some (p.2.1, p.2.2, p.1)
 | _ => none
def f2w (L : List Lf) (p : Bool × List D × Bool) : Res := ([.g [.i .i64 (li L 0), .i .i64 (li L 1), .i .i64 (li L 2), .sl 44 p.1 p.2.1, .kp 7]], [(7, .row 5 true p.2.2 (ll L 6))])
noncomputable def f2e (N : Nat) (L : List Lf) : List (Bool × Res) := bnd (H44 N (lb L 3) (ll L 4) (lb L 5) (ll L 6)) fun q => [(q.isSome, f2w L (q.getD default))]
theorem e0e (N : Nat) (L : List Lf) (x : Res) (h : bd Try.prog (Hd.T70x0 N) (Hd.h44x0s7 N).h 44 Hd.sh44x0 L = some x) : a2c Try.prog 44 (b2i (a0x Hd.sh44x0 L).tmps) (a0x Hd.sh44x0 L).mem x :=
 b2h (n := 200) a0b (Hd.T70x0_ok N) (Hd.h44x0s7 N).ok (kb := 0) (by rfl) h
theorem f1k (N : Nat) : a0t Try.prog 44 Hd.sh44x0 (f2e N) := b5Z fun L x hx => by
 have hr := (Hd.raw44x0 N L).trans (Hd.bind44x0 N ..)
 have hx' := a0D x hx
 unfold H44 at hx'
 cases hg : Hd.G44x0 N (lb L 3) (ll L 4) (lb L 5) (ll L 6) with
 | none => rw [hg] at hx'; cases hx'
 | some q =>
  rw [hg] at hx' hr
  have hne : (0 : Nat) ≤ 7 := by decide
  match q with
  | .inl _ => cases hx'
  | .inr (.inl _) => cases hx'
  | .inr (.inr (.inl b)) =>
   have hc := e0e N L _ hr
   have := b2n (k' := 7) (by intro c hc; simp only [f3d, List.not_mem_nil, or_false] at hc; rcases hc with rfl | rfl | rfl | rfl <;> rfl) (by exact Nat.zero_le 7) (b83 (cs := [.i .i64 (li L 0), .i .i64 (li L 1), .i .i64 (li L 2), .sl 44 true []]) hc)
   cases hx'
   exact this
  | .inr (.inr (.inr p)) =>
   have hc := e0e N L _ hr
   have := b2n (k' := 7) (cs := [.i .i64 (li L 0), .i .i64 (li L 1), .i .i64 (li L 2), .sl 44 p.2.1 p.2.2]) (by intro c hc; simp only [f3d, List.not_mem_nil, or_false] at hc; rcases hc with rfl | rfl | rfl | rfl <;> rfl) (by exact Nat.zero_le 7) (c1j (cs := [.i .i64 (li L 0), .i .i64 (li L 1), .i .i64 (li L 2)]) (by intro c hc; simp only [f3d, List.not_mem_nil, or_false] at hc; rcases hc with rfl | rfl | rfl <;> rfl) (by decide) hc)
   cases hx'
   exact this
noncomputable def f1l (N : Nat) : a0e := ext 44 (a1b Hd.sh44x0 (f2e N)) (Hd.T70x0 N)
theorem c9q (N : Nat) : a0c Try.prog (f1l N) := a0t.to (f1k N) (Hd.T70x0_ok N)
end Ce
end Go.Proofs.Ytfogaejiehebeaa

set_option linter.unusedVariables false
set_option linter.unusedSimpArgs false
set_option maxRecDepth 100000
namespace Go.Proofs.Ytfogaejiehebeaa
open Go Go.AM
namespace Ce
noncomputable def f1m : List (Nat × List Nat) := [(0, [0]), (1, [1, 2]), (2, [1, 3, 2]), (3, [9, 8, 7, 3, 2]), (4, [7, 9, 3, 8, 2]), (5, [3, 5, 9, 8, 7, 2]), (6, [9, 8, 7, 3, 2]), (7, [3, 2])]
noncomputable def f2f : a0r := [(9, [2, 3, 7, 8, 9], [2, 3, 50003000], [50003000])]
noncomputable def f2x : a5Q := { loops := f2f, regs := f1m, los := [], rows := true }
noncomputable def f0U : a5Q := { loops := [], regs := f1m, los := [], rows := true }
abbrev KB : Nat := 50003001
abbrev KR : Nat := 50003000
def tm9 (n7 : Bool) (xs : List D) (n i : Int) : AL V := [(2, .c (.p 2 0)), (3, .c (.p 3 0)), (7, .c (.sl 41 n7 xs)), (8, .c (.i .i64 n)), (9, .c (.i .i64 i))]
def stA (n7 : Bool) (xs : List D) (n : Int) (b2 : Bool) (x2 : List D) (i : Int) (nl : Bool) (ys : List D) : St := ⟨tm9 n7 xs n i, [(2, .box [.sl 41 b2 x2]), (3, .box [.o 50003000]), (50003000, .row 41 true nl ys)]⟩
def mC (b2 : Bool) (x2 : List D) (k : Nat) (ys : List D) (nK : Bool) (bs : List D) : AL AM.Obj := [(2, .box [.sl 41 b2 x2]), (3, .box [.o KR]), (KR, .krow 41 k 4 (.kp KB) ys), (KB, .row 5 true nK bs)]
def stC (n7 : Bool) (xs : List D) (n : Int) (b2 : Bool) (x2 : List D) (i : Int) (k : Nat) (ys : List D) (nK : Bool) (bs : List D) : St := ⟨tm9 n7 xs n i, mC b2 x2 k ys nK bs⟩
def e4X (b2 : Bool) (x2 : List D) (k : Nat) (ys : List D) (nK : Bool) (bs : List D) : St := ⟨[(2, .c (.p 2 0)), (3, .c (.p 3 0))], mC b2 x2 k ys nK bs⟩
noncomputable def rdA (cl : a0e) (hs : a5Q) (a b : List Nat) (st : St) (own : Option (Nat × Nat × Nat) := none) : Option (Ex × St) := a3P Try.prog cl hs 0 200 (a8U (a1i Try.prog 22 9)) st (fun e st => some (e, a4r a b (f1i 0 own (a2B Try.prog 0 hs.loops 9 st))))
def dEnt (x : D) (nl : Bool) (dl : List D) (nb : Bool) (bs : List D) : D := .a [(.i (x.cell 0).toI), (.i (x.cell 1).toI), (.i (x.cell 2).toI), (.l nl dl), (.l nb bs)]
noncomputable def SA {R : Type} (N : Nat) (xs : List D) (n i : Int) (ys : List D) (kr : List D → Option R) : Option R :=
 bif (inB i xs.length) then
  bnd (G44x0 N ((xs.getD i.toNat (.i 0)).cell 3).isNil ((xs.getD i.toNat (.i 0)).cell 3).items ((xs.getD i.toNat (.i 0)).cell 4).isNil ((xs.getD i.toNat (.i 0)).cell 4).items) fun q =>
  bif q.isSome then
   bif (decide ((ys.length + 1) * 72 ≤ a1j) && decide ((ys.length + 1) ≤ a0i)) then
    kr (ys ++ [dEnt (xs.getD i.toNat (.i 0)) (q.getD default).1 (q.getD default).2.1 (q.getD default).2.2.1 (q.getD default).2.2.2])
   else
    none
  else
   none
 else
  none
theorem e4Y (N : Nat) (n7 : Bool) (xs : List D) (n : Int) (b2 : Bool) (x2 : List D) (i : Int) (nl : Bool) (ys : List D) :
  rdA (c5u N) f2x [2, 3, 7, 8, 9] [2, 3, 50003000] (stA n7 xs n b2 x2 i nl ys) = (bif decide (i < n) then SA N xs n i ys fun zs => some (.normal, stA n7 xs n b2 x2 (IntKind.wrap .i64 (i + 1)) false zs)
   else some (.exit 0, ⟨tm9 n7 xs n i, (stA n7 xs n b2 x2 i nl ys).mem⟩)) := by kernel_rfl
noncomputable def SC {R : Type} (N : Nat) (xs : List D) (n i : Int) (ys : List D) (kr : List D → Option R) : Option R :=
 bif (inB i xs.length) then
  bnd (G44x0 N ((xs.getD i.toNat (.i 0)).cell 3).isNil ((xs.getD i.toNat (.i 0)).cell 3).items ((xs.getD i.toNat (.i 0)).cell 4).isNil ((xs.getD i.toNat (.i 0)).cell 4).items) fun q =>
  bif q.isSome then
   bif (decide ((ys.length + 1) * 72 ≤ a1j) && decide ((ys.length + 1) ≤ a0i)) && true then
    kr (ys ++ [dEnt (xs.getD i.toNat (.i 0)) (q.getD default).1 (q.getD default).2.1 (q.getD default).2.2.1 (q.getD default).2.2.2])
   else
    none
  else
   none
 else
  none
theorem e4Z (N : Nat) (n7 : Bool) (xs : List D) (n : Int) (b2 : Bool) (x2 : List D) (i : Int) (k : Nat) (ys : List D) (nK : Bool) (bs : List D) :
  rdA (c5u N) f0U [2, 3, 7, 8, 9] [2, 3, KR, KB] (stC n7 xs n b2 x2 i k ys nK bs) (some (KR, 3, 0)) = (bif decide (i < n) then SC N xs n i ys fun zs => some (.normal, stC n7 xs n b2 x2 (IntKind.wrap .i64 (i + 1)) k zs nK bs)
   else some (.exit 0, ⟨tm9 n7 xs n i, mC b2 x2 k ys nK bs⟩)) := by kernel_rfl
noncomputable def SH {R : Type} (N : Nat) (xs : List D) (n i : Int) (kr : D → Bool → List D → Option R) : Option R :=
 bif (inB i xs.length) then
  bnd (H44 N ((xs.getD i.toNat (.i 0)).cell 3).isNil ((xs.getD i.toNat (.i 0)).cell 3).items ((xs.getD i.toNat (.i 0)).cell 4).isNil ((xs.getD i.toNat (.i 0)).cell 4).items) fun q =>
  bif q.isSome then
   kr (dEnt (xs.getD i.toNat (.i 0)) (q.getD default).1 (q.getD default).2.1 true []) (q.getD default).2.2 ((xs.getD i.toNat (.i 0)).cell 4).items
  else
   none
 else
  none
theorem e1a (N : Nat) (n7 : Bool) (xs : List D) (n : Int) (b2 : Bool) (x2 : List D) (i : Int) (ys : List D) :
  rdA (f1l N) f0U [2, 3, 7, 8, 9] [2, 3, KR, KB] (stA n7 xs n b2 x2 i false ys) (some (KR, 3, 0)) = (bif decide (i < n) then SH N xs n i fun z nK bs => bif (decide ((ys.length + 1) * 72 ≤ a1j) && decide ((ys.length + 1) ≤ a0i)) && true then some (.normal, stC n7 xs n b2 x2 (IntKind.wrap .i64 (i + 1)) ys.length (ys ++ [z]) nK bs) else none
   else some (.exit 0, ⟨tm9 n7 xs n i, (stA n7 xs n b2 x2 i false ys).mem⟩)) := by kernel_rfl
theorem e1b (N : Nat) (n7 : Bool) (xs : List D) (n : Int) (b2 : Bool) (x2 : List D) (i : Int) :
  rdA (f1l N) f0U [2, 3, 7, 8, 9] [2, 3, KR, KB] (stA n7 xs n b2 x2 i true []) (some (KR, 3, 0)) = (bif decide (i < n) then SH N xs n i fun z nK bs => some (.normal, stC n7 xs n b2 x2 (IntKind.wrap .i64 (i + 1)) 0 [z] nK bs)
   else some (.exit 0, ⟨tm9 n7 xs n i, (stA n7 xs n b2 x2 i true []).mem⟩)) := by kernel_rfl
end Ce
end Go.Proofs.Ytfogaejiehebeaa

set_option linter.unusedVariables false
set_option linter.unusedSimpArgs false
set_option maxRecDepth 100000
namespace Go.Proofs.Ytfogaejiehebeaa
open Go Go.AM
namespace Ce
theorem f1n (N : Nat) (n7 : Bool) (xs : List D) (n : Int) (b2 : Bool) (x2 : List D) (i : Int) (k : Nat) (ys : List D) (nK : Bool) (bs : List D) :
  rdA (c5u N) f0U [2, 3] [2, 3, KR, KB] (stC n7 xs n b2 x2 i k ys nK bs) (some (KR, 3, 0)) = (bif decide (i < n) then SC N xs n i ys fun zs => some (.normal, e4X b2 x2 k zs nK bs)
   else some (.exit 0, e4X b2 x2 k ys nK bs)) := by kernel_rfl
noncomputable def lpC (N : Nat) (xs : List D) (n : Int) : Nat → Int → List D → Option (List D)
 | 0, _, _ => none
 | m + 1, i, ys => bif decide (i < n) then SC N xs n i ys fun zs => lpC N xs n m (IntKind.wrap .i64 (i + 1)) zs else some ys
noncomputable def lpA (N : Nat) (xs : List D) (n k : Int) : Nat → Int → Bool → List D → Option (Nat × List D × Bool × List D)
 | 0, _, _, _ => none
 | m + 1, i, nl, ys => bif decide (i < n) then
   (bif decide (i = k) then SH N xs n i fun z nK bs => bif (bif nl then ys.isEmpty else ((decide ((ys.length + 1) * 72 ≤ a1j) && decide ((ys.length + 1) ≤ a0i)) && true)) then
     (lpC N xs n m (IntKind.wrap .i64 (i + 1)) (ys ++ [z])).bind fun zs => some (ys.length, zs, nK, bs)
    else none
   else SA N xs n i ys fun zs => lpA N xs n k m (IntKind.wrap .i64 (i + 1)) false zs)
  else none
abbrev Rd (st : St) (x : Ex × St) : Prop := d6j Try.prog 0 22 9 e4x a5g st x
theorem c9r {cl : a0e} {hs : a5Q} {a b : List Nat} {st : St} {own : Option (Nat × Nat × Nat)} {x : Ex × St} (hcl : a0c Try.prog cl) (hlo : hs.los = []) (h : rdA cl hs a b st own = some x) : Rd st x :=
 ⟨cl, hs, a, b, own, 200, hcl, by rw [hlo]; exact a09.nil, h⟩
theorem e1c {R : Type} {N : Nat} {xs : List D} {n i : Int} {ys : List D} {kr : List D → Option R} {r : R} (h : SC N xs n i ys kr = some r) : ∃ zs, kr zs = some r ∧ ∀ {R' : Type} (kr' : List D → Option R'), SC N xs n i ys kr' = kr' zs := by
 unfold SC bnd at h ⊢
 cases h1 : inB i xs.length with
 | false => rw [h1] at h; cases h
 | true =>
  rw [h1] at h
  simp only [f22] at h ⊢
  generalize hq : G44x0 N ((xs.getD i.toNat (.i 0)).cell 3).isNil ((xs.getD i.toNat (.i 0)).cell 3).items ((xs.getD i.toNat (.i 0)).cell 4).isNil ((xs.getD i.toNat (.i 0)).cell 4).items = q at h ⊢
  cases h2 : q.isSome with
  | false => rw [h2] at h; cases h
  | true =>
   rw [h2] at h
   simp only [f22] at h ⊢
   cases h3 : (decide ((ys.length + 1) * 72 ≤ a1j) && decide ((ys.length + 1) ≤ a0i)) && true with
   | false => rw [h3] at h; cases h
   | true => rw [h3] at h; exact ⟨_, h, fun _ => rfl⟩
theorem e1d {R : Type} {N : Nat} {xs : List D} {n i : Int} {ys : List D} {kr : List D → Option R} {r : R} (h : SA N xs n i ys kr = some r) : ∃ zs, kr zs = some r ∧ ∀ {R' : Type} (kr' : List D → Option R'), SA N xs n i ys kr' = kr' zs := by
 unfold SA bnd at h ⊢
 cases h1 : inB i xs.length with
 | false => rw [h1] at h; cases h
 | true =>
  rw [h1] at h
  simp only [f22] at h ⊢
  generalize hq : G44x0 N ((xs.getD i.toNat (.i 0)).cell 3).isNil ((xs.getD i.toNat (.i 0)).cell 3).items ((xs.getD i.toNat (.i 0)).cell 4).isNil ((xs.getD i.toNat (.i 0)).cell 4).items = q at h ⊢
  cases h2 : q.isSome with
  | false => rw [h2] at h; cases h
  | true =>
   rw [h2] at h
   simp only [f22] at h ⊢
   cases h3 : (decide ((ys.length + 1) * 72 ≤ a1j) && decide ((ys.length + 1) ≤ a0i)) with
   | false => rw [h3] at h; cases h
   | true => rw [h3] at h; exact ⟨_, h, fun _ => rfl⟩
theorem e1e {R : Type} {N : Nat} {xs : List D} {n i : Int} {kr : D → Bool → List D → Option R} {r : R} (h : SH N xs n i kr = some r) : ∃ z nK bs, kr z nK bs = some r ∧ ∀ {R' : Type} (kr' : D → Bool → List D → Option R'), SH N xs n i kr' = kr' z nK bs := by
 unfold SH bnd at h ⊢
 cases h1 : inB i xs.length with
 | false => rw [h1] at h; cases h
 | true =>
  rw [h1] at h
  simp only [f22] at h ⊢
  generalize hq : H44 N ((xs.getD i.toNat (.i 0)).cell 3).isNil ((xs.getD i.toNat (.i 0)).cell 3).items ((xs.getD i.toNat (.i 0)).cell 4).isNil ((xs.getD i.toNat (.i 0)).cell 4).items = q at h ⊢
  cases h2 : q.isSome with
  | false => rw [h2] at h; cases h
  | true => rw [h2] at h; exact ⟨_, _, _, h, fun _ => rfl⟩
theorem e1f {N : Nat} {n7 : Bool} {xs : List D} {n : Int} {b2 : Bool} {x2 : List D} {k : Nat} {nK : Bool} {bs : List D} : ∀ (m : Nat) (i : Int) (ys zs : List D), lpC N xs n m i ys = some zs → d6h Rd (stC n7 xs n b2 x2 i k ys nK bs) (.exit 0, e4X b2 x2 k zs nK bs)
 | 0, i, ys, zs, h => by cases h
 | m + 1, i, ys, zs, h => by
  unfold lpC at h
  cases hi : decide (i < n) with
  | false =>
   rw [hi] at h
   cases h
   refine .stop (c9r (a94 N) rfl ((f1n ..).trans ?_))
   rw [hi]
   rfl
  | true =>
   rw [hi] at h
   obtain ⟨ws, h1, h2⟩ := e1c (n := n) h
   refine .step (c9r (a94 N) rfl ((e4Z ..).trans ?_)) (e1f (n7 := n7) m _ ws zs h1)
   rw [hi]
   exact h2 fun zs => some (Ex.normal, stC n7 xs n b2 x2 (IntKind.i64.wrap (i + 1)) k zs nK bs)
theorem e40 {N : Nat} {n7 : Bool} {xs : List D} {n k : Int} {b2 : Bool} {x2 : List D} : ∀ (m : Nat) (i : Int) (nl : Bool) (ys : List D) (p : Nat × List D × Bool × List D), lpA N xs n k m i nl ys = some p → d6h Rd (stA n7 xs n b2 x2 i nl ys) (.exit 0, e4X b2 x2 p.1 p.2.1 p.2.2.1 p.2.2.2)
 | 0, i, nl, ys, p, h => by cases h
 | m + 1, i, nl, ys, p, h => by
  unfold lpA at h
  cases hi : decide (i < n) with
  | false => rw [hi] at h; cases h
  | true =>
   rw [hi] at h
   simp only [f22] at h
   cases hk : decide (i = k) with
   | false =>
    rw [hk] at h
    obtain ⟨ws, h1, h2⟩ := e1d (n := n) h
    refine .step (c9r (a94 N) rfl ((e4Y ..).trans ?_)) (e40 (n7 := n7) m _ false ws p h1)
    rw [hi]
    exact h2 fun zs => some (Ex.normal, stA n7 xs n b2 x2 (IntKind.i64.wrap (i + 1)) false zs)
   | true =>
    rw [hk] at h
    simp only [f22] at h
    obtain ⟨z, nK, bs, h1, h2⟩ := e1e h
    cases nl with
    | true =>
     cases ys with
     | cons y ys => cases h1
     | nil =>
      have h1 : (lpC N xs n m (IntKind.wrap .i64 (i + 1)) [z]).bind (fun zs => some (0, zs, nK, bs)) = some p := h1
      cases hc : lpC N xs n m (IntKind.wrap .i64 (i + 1)) [z] with
      | none => rw [hc] at h1; cases h1
      | some zs =>
       rw [hc] at h1
       cases h1
       refine .step (c9r (c9q N) rfl ((e1b ..).trans ?_)) (e1f (n7 := n7) m _ _ zs hc)
       rw [hi]
       exact h2 fun z nK bs => some (Ex.normal, stC n7 xs n b2 x2 (IntKind.i64.wrap (i + 1)) 0 [z] nK bs)
    | false =>
     simp only [f23] at h1
     cases hr : (decide ((ys.length + 1) * 72 ≤ a1j) && decide ((ys.length + 1) ≤ a0i)) && true with
     | false => rw [hr] at h1; cases h1
     | true =>
      rw [hr] at h1
      simp only [f22] at h1
      cases hc : lpC N xs n m (IntKind.wrap .i64 (i + 1)) (ys ++ [z]) with
      | none => rw [hc] at h1; cases h1
      | some zs =>
       rw [hc] at h1
       cases h1
       refine .step (c9r (c9q N) rfl ((e1a ..).trans ?_)) (e1f (n7 := n7) m _ _ zs hc)
       rw [hi]
       refine (h2 fun z nK bs => bif (decide ((ys.length + 1) * 72 ≤ a1j) && decide ((ys.length + 1) ≤ a0i)) && true then some (Ex.normal, stC n7 xs n b2 x2 (IntKind.i64.wrap (i + 1)) ys.length (ys ++ [z]) nK bs) else none).trans ?_
       simp only [hr, f22]
noncomputable def sh9 : Sh := { tmps := [(2, .c (.p 2 0)), (3, .c (.p 3 0)), (7, .c (.sl 41)), (8, .c (.i .i64)), (9, .c (.i .i64))], mem := [(2, .box ([.sl 41])), (3, .box ([.o 50003000])), (50003000, .row 41 true)] }
noncomputable def A9 (N : Nat) (k : Int) (L : List Lf) : List (Bool × (Ex × St)) := bnd (lpA N (ll L 1) (li L 2) k N (li L 3) (lb L 6) (ll L 7)) fun q => [(q.isSome, (.exit 0, e4X (lb L 4) (ll L 5) (q.getD default).1 (q.getD default).2.1 (q.getD default).2.2.1 (q.getD default).2.2.2))]
theorem f2y (N : Nat) (k : Int) : a3n Try.prog 0 (a1i Try.prog 22 9) (d5x sh9 (A9 N k)) :=
 d6k a0b (by kernel_rfl) (by kernel_rfl) (fsW _) (a93 (Q := fun st x => d6h Rd st x) fun L x hx => by
  unfold A9 bnd at hx
  cases hq : lpA N (ll L 1) (li L 2) k N (li L 3) (lb L 6) (ll L 7) with
  | none => rw [hq] at hx; cases hx
  | some p => rw [hq] at hx; cases hx; exact e40 N _ _ _ p hq)
end Ce
end Go.Proofs.Ytfogaejiehebeaa

set_option linter.unusedVariables false
set_option linter.unusedSimpArgs false
set_option maxRecDepth 100000
namespace Go.Proofs.Ytfogaejiehebeaa
open Go Go.AM
namespace Ce
noncomputable def g22 (N : Nat) (k : Int) : Sg Try.prog 0 22 := (Sg.start f2f f1m true).hand (id := 9) (f2y N k)
noncomputable def sh22 : Sh := { tmps := [(0, .g ([.sl 41]))], mem := [] }
def f2g (p : Nat × List D × Bool × List D) : Res := ([.g [.o KR]], [(KR, .krow 41 p.1 4 (.kp KB) p.2.1), (KB, .row 5 true p.2.2.1 p.2.2.2)])
noncomputable def A22k (N : Nat) (k : Int) (L : List Lf) : List (Bool × Res) := bnd (lpA N (ll L 1) ((ll L 1).length : Int) k N 0 true []) fun q => [(q.isSome, f2g (q.getD default))]
theorem e41 (N : Nat) (k : Int) (L : List Lf) : bd Try.prog a3o (g22 N k).h 22 sh22 L = bnd (lpA N (ll L 1) ((ll L 1).length : Int) k N 0 true []) fun q => bif q.isSome then some (f2g (q.getD default)) else none := by kernel_rfl
theorem ok22k (N : Nat) (k : Int) : a0t Try.prog 22 sh22 (A22k N k) := (g22 N k).fn a0b a1S fun L x hx => (e41 N k L).trans hx
end Ce
end Go.Proofs.Ytfogaejiehebeaa

set_option linter.unusedVariables false
set_option linter.unusedSimpArgs false
set_option maxRecDepth 100000
namespace Go.Proofs.Ytfogaejiehebeaa
open Go Go.AM
namespace Ce
noncomputable def f1o : List Oper := match a1i Try.prog 7 43 with | .region _ ops _ => ops.toList | _ => []
def e42 : List Oper → Nat → Oper
 | o :: _, 0 => o
 | _ :: r, n + 1 => e42 r n
 | [], _ => ⟨none, .move (.tmp 0), 0, "", #[], none⟩
noncomputable def o14 (n : Nat) : Oper := e42 f1o n
theorem c9s : a1i Try.prog 7 43 = .region 14 [o14 0, o14 1, o14 2, o14 3, o14 4, o14 5, o14 6, o14 7, o14 8, o14 9, o14 10, o14 11, o14 12, o14 13].toArray true := by kernel_rfl
theorem op3 : (o14 3).op = .indexAddr 22 (.tmp 71) (.tmp 72) := by kernel_rfl
noncomputable def s4 : Nat := match (o14 4).op with | .fieldAddr s _ _ => s | _ => 0
theorem op4 : (o14 4).op = .fieldAddr s4 (.tmp 73) 4 := by kernel_rfl
theorem f1j : a3M Try.prog s4 4 = some 4 := by kernel_rfl
theorem op5 : (o14 5).op = .load 39 (.tmp 74) := by kernel_rfl
theorem f2z : (o14 11).op = .slice 39 (.tmp 75) (some (.tmp 80)) none none := by kernel_rfl
def c9t (o : Oper) : Bool := match o.op with
 | .call c => (match c.callee, c.args.toList, c.argTypes.toList with
  | .builtin .copy, [.tmp x, .tmp y], [T, T'] => Nat.beq x 81 && Nat.beq y 82 && Nat.beq T 39 && Nat.beq T' 39
  | _, _, _ => false)
 | _ => false
theorem e43 : c9t (o14 13) = true := by kernel_rfl
theorem c1w {o : Oper} (h : c9t o = true) : ∃ c, o.op = .call c ∧ c.callee = .builtin .copy ∧ c.args.toList = [.tmp 81, .tmp 82] ∧ c.argTypes.toList = [39, 39] := by
 unfold c9t at h
 split at h
 ·rename_i c hc
  split at h
  ·rename_i x y T T' h1 h2 h3
   simp only [f20] at h
   have e1 := f2Z h.1.1.1
   have e2 := f2Z h.1.1.2
   have e3 := f2Z h.1.2
   have e4 := f2Z h.2
   subst e1 e2 e3 e4
   exact ⟨c, hc, h1, h2, h3⟩
  ·cases h
 ·cases h
abbrev R7 : Nat := 70050003000
abbrev K7 : Nat := 70050003001
noncomputable def E14 : Nat := match (o14 8).op with | .indexAddr T _ _ => (a0j Try.prog T).getD 0 | _ => 0
noncomputable def f2h (i : Int) (nl : Bool) (fs : List D) (j : Int) (nb : Bool) (ys : List D) : AL V := [(1, .c (.i .i64 i)), (6, .c (.p 6 0)), (10, .c (.sl E14 nl fs)), (11, .c (.i .i64 j)), (12, .c (.sl 5 nb ys)), (13, .c (.p 13 0))]
noncomputable def e44 (i : Int) (nl : Bool) (fs : List D) (j : Int) (nb : Bool) (ys : List D) (b6 : Bool) (x6 : List D) (k : Nat) (xs : List D) (bs : List D) : St :=
 ⟨f2h i nl fs j nb ys, [(6, .box [.sl 41 b6 x6]), (13, .box [.o R7]), (R7, .krow 41 k 4 (.kp K7) xs), (K7, .row 5 true false bs)]⟩
section
variable (i : Int) (nl : Bool) (fs : List D) (j : Int) (nb : Bool) (ys : List D) (b6 : Bool) (x6 : List D) (k : Nat) (xs bs : List D)
noncomputable def f2A : St := ((e44 i nl fs j nb ys b6 x6 k xs bs).put (some 70) (.c (.p 13 0))).put (some 71) (.c (.o R7)) |>.put (some 72) (.c (.i .i64 i))
theorem v0 : (let st := e44 i nl fs j nb ys b6 x6 k xs bs; a1C Try.prog st.mem (evu st) (evw st) (o14 0)) = some (true, .c (.p 13 0)) := by kernel_rfl
theorem v1 : (let st := (e44 i nl fs j nb ys b6 x6 k xs bs).put (some 70) (.c (.p 13 0)); a1C Try.prog st.mem (evu st) (evw st) (o14 1)) = some (true, .c (.o R7)) := by kernel_rfl
theorem v2 : (let st := ((e44 i nl fs j nb ys b6 x6 k xs bs).put (some 70) (.c (.p 13 0))).put (some 71) (.c (.o R7)); a1C Try.prog st.mem (evu st) (evw st) (o14 2)) = some (true, .c (.i .i64 i)) := by kernel_rfl
noncomputable def q14 : Nat := match (o14 9).op with | .fieldAddr s _ f => (a3M Try.prog s f).getD 0 | _ => 0
noncomputable def sB (p3 p4 : Value) : St := (((f2A i nl fs j nb ys b6 x6 k xs bs).put (some 73) (.c (.v p3))).put (some 74) (.c (.v p4))).put (some 75) (.c (.o K7))
theorem v6 (p3 p4 : Value) : (let st := sB i nl fs j nb ys b6 x6 k xs bs p3 p4; a1C Try.prog st.mem (evu st) (evw st) (o14 6)) = some (true, .c (.sl E14 nl fs)) := by kernel_rfl
noncomputable def sC (p3 p4 : Value) : St := ((sB i nl fs j nb ys b6 x6 k xs bs p3 p4).put (some 76) (.c (.sl E14 nl fs))).put (some 77) (.c (.i .i64 j))
theorem v7 (p3 p4 : Value) : (let st := (sB i nl fs j nb ys b6 x6 k xs bs p3 p4).put (some 76) (.c (.sl E14 nl fs)); a1C Try.prog st.mem (evu st) (evw st) (o14 7)) = some (true, .c (.i .i64 j)) := by kernel_rfl
theorem v8 (p3 p4 : Value) : (let st := sC i nl fs j nb ys b6 x6 k xs bs p3 p4; a1C Try.prog st.mem (evu st) (evw st) (o14 8)) = some (inB j fs.length, .c (.el E14 (fs.getD j.toNat (.i 0)) 0)) := by kernel_rfl
theorem v9 (p3 p4 : Value) : (let st := (sC i nl fs j nb ys b6 x6 k xs bs p3 p4).put (some 78) (.c (.el E14 (fs.getD j.toNat (.i 0)) 0)); a1C Try.prog st.mem (evu st) (evw st) (o14 9)) = some (true, .c (.el E14 (fs.getD j.toNat (.i 0)) q14)) := by kernel_rfl
theorem v10 (p3 p4 : Value) : (let st := ((sC i nl fs j nb ys b6 x6 k xs bs p3 p4).put (some 78) (.c (.el E14 (fs.getD j.toNat (.i 0)) 0))).put (some 79) (.c (.el E14 (fs.getD j.toNat (.i 0)) q14)); a1C Try.prog st.mem (evu st) (evw st) (o14 10)) = some (true, .c (.i .i64 ((fs.getD j.toNat (.i 0)).cell q14).toI)) := by kernel_rfl
noncomputable def off14 : Int := ((fs.getD j.toNat (.i 0)).cell q14).toI
noncomputable def sD (p3 p4 p11 : Value) : St := ((((sC i nl fs j nb ys b6 x6 k xs bs p3 p4).put (some 78) (.c (.el E14 (fs.getD j.toNat (.i 0)) 0))).put (some 79) (.c (.el E14 (fs.getD j.toNat (.i 0)) q14))).put (some 80) (.c (.i .i64 (off14 fs j)))).put (some 81) (.c (.v p11))
theorem v12 (p3 p4 p11 : Value) : (let st := sD i nl fs j nb ys b6 x6 k xs bs p3 p4 p11; a1C Try.prog st.mem (evu st) (evw st) (o14 12)) = some (true, .c (.sl 5 nb ys)) := by kernel_rfl
end
end Ce
end Go.Proofs.Ytfogaejiehebeaa

set_option linter.unusedVariables false
set_option linter.unusedSimpArgs false
set_option maxRecDepth 100000
namespace Go.Proofs.Ytfogaejiehebeaa
open Go Go.AM
namespace Ce
section
variable (i : Int) (nl : Bool) (fs : List D) (j : Int) (nb : Bool) (ys : List D) (b6 : Bool) (x6 : List D) (k : Nat) (xs bs : List D)
noncomputable def z0 : St := e44 i nl fs j nb ys b6 x6 k xs bs
noncomputable def z1 : St := (z0 i nl fs j nb ys b6 x6 k xs bs).put (some 70) (.c (.p 13 0))
noncomputable def z2 : St := (z1 i nl fs j nb ys b6 x6 k xs bs).put (some 71) (.c (.o R7))
noncomputable def z3 : St := (z2 i nl fs j nb ys b6 x6 k xs bs).put (some 72) (.c (.i .i64 i))
noncomputable def z4 (v : Value) : St := (z3 i nl fs j nb ys b6 x6 k xs bs).put (some 73) (.c (.v v))
noncomputable def z5 (v v' : Value) : St := (z4 i nl fs j nb ys b6 x6 k xs bs v).put (some 74) (.c (.v v'))
noncomputable def z6 (v v' : Value) : St := (z5 i nl fs j nb ys b6 x6 k xs bs v v').put (some 75) (.c (.o K7))
noncomputable def z7 (v v' : Value) : St := (z6 i nl fs j nb ys b6 x6 k xs bs v v').put (some 76) (.c (.sl E14 nl fs))
noncomputable def z8 (v v' : Value) : St := (z7 i nl fs j nb ys b6 x6 k xs bs v v').put (some 77) (.c (.i .i64 j))
noncomputable def z9 (v v' : Value) : St := (z8 i nl fs j nb ys b6 x6 k xs bs v v').put (some 78) (.c (.el E14 (fs.getD j.toNat (.i 0)) 0))
noncomputable def z10 (v v' : Value) : St := (z9 i nl fs j nb ys b6 x6 k xs bs v v').put (some 79) (.c (.el E14 (fs.getD j.toNat (.i 0)) q14))
noncomputable def z11 (v v' : Value) : St := (z10 i nl fs j nb ys b6 x6 k xs bs v v').put (some 80) (.c (.i .i64 (off14 fs j)))
noncomputable def z12 (v v' v'' : Value) : St := (z11 i nl fs j nb ys b6 x6 k xs bs v v').put (some 81) (.c (.v v''))
noncomputable def z13 (v v' v'' : Value) : St := (z12 i nl fs j nb ys b6 x6 k xs bs v v' v'').put (some 82) (.c (.sl 5 nb ys))
theorem y0 : a1C Try.prog (z0 i nl fs j nb ys b6 x6 k xs bs).mem (evu (z0 i nl fs j nb ys b6 x6 k xs bs)) (evw (z0 i nl fs j nb ys b6 x6 k xs bs)) (o14 0) = some (true, .c (.p 13 0)) := by kernel_rfl
theorem y1 : a1C Try.prog (z1 i nl fs j nb ys b6 x6 k xs bs).mem (evu (z1 i nl fs j nb ys b6 x6 k xs bs)) (evw (z1 i nl fs j nb ys b6 x6 k xs bs)) (o14 1) = some (true, .c (.o R7)) := by kernel_rfl
theorem y2 : a1C Try.prog (z2 i nl fs j nb ys b6 x6 k xs bs).mem (evu (z2 i nl fs j nb ys b6 x6 k xs bs)) (evw (z2 i nl fs j nb ys b6 x6 k xs bs)) (o14 2) = some (true, .c (.i .i64 i)) := by kernel_rfl
theorem y6 (v v' : Value) : a1C Try.prog (z6 i nl fs j nb ys b6 x6 k xs bs v v').mem (evu (z6 i nl fs j nb ys b6 x6 k xs bs v v')) (evw (z6 i nl fs j nb ys b6 x6 k xs bs v v')) (o14 6) = some (true, .c (.sl E14 nl fs)) := by kernel_rfl
theorem y7 (v v' : Value) : a1C Try.prog (z7 i nl fs j nb ys b6 x6 k xs bs v v').mem (evu (z7 i nl fs j nb ys b6 x6 k xs bs v v')) (evw (z7 i nl fs j nb ys b6 x6 k xs bs v v')) (o14 7) = some (true, .c (.i .i64 j)) := by kernel_rfl
theorem y8 (v v' : Value) : a1C Try.prog (z8 i nl fs j nb ys b6 x6 k xs bs v v').mem (evu (z8 i nl fs j nb ys b6 x6 k xs bs v v')) (evw (z8 i nl fs j nb ys b6 x6 k xs bs v v')) (o14 8) = some (inB j fs.length, .c (.el E14 (fs.getD j.toNat (.i 0)) 0)) := by kernel_rfl
theorem y9 (v v' : Value) : a1C Try.prog (z9 i nl fs j nb ys b6 x6 k xs bs v v').mem (evu (z9 i nl fs j nb ys b6 x6 k xs bs v v')) (evw (z9 i nl fs j nb ys b6 x6 k xs bs v v')) (o14 9) = some (true, .c (.el E14 (fs.getD j.toNat (.i 0)) q14)) := by kernel_rfl
theorem y10 (v v' : Value) : a1C Try.prog (z10 i nl fs j nb ys b6 x6 k xs bs v v').mem (evu (z10 i nl fs j nb ys b6 x6 k xs bs v v')) (evw (z10 i nl fs j nb ys b6 x6 k xs bs v v')) (o14 10) = some (true, .c (.i .i64 (off14 fs j))) := by kernel_rfl
theorem y12 (v v' v'' : Value) : a1C Try.prog (z12 i nl fs j nb ys b6 x6 k xs bs v v' v'').mem (evu (z12 i nl fs j nb ys b6 x6 k xs bs v v' v'')) (evw (z12 i nl fs j nb ys b6 x6 k xs bs v v' v'')) (o14 12) = some (true, .c (.sl 5 nb ys)) := by kernel_rfl
theorem f1p : evu (z3 i nl fs j nb ys b6 x6 k xs bs) (.tmp 71) = .c (.o R7) := by kernel_rfl
theorem f1q : evu (z3 i nl fs j nb ys b6 x6 k xs bs) (.tmp 72) = .c (.i .i64 i) := by kernel_rfl
theorem f1r (v : Value) : evu (z4 i nl fs j nb ys b6 x6 k xs bs v) (.tmp 73) = .c (.v v) := by kernel_rfl
theorem f1s (v v' : Value) : evu (z5 i nl fs j nb ys b6 x6 k xs bs v v') (.tmp 74) = .c (.v v') := by kernel_rfl
theorem e45 (v v' : Value) : evu (z11 i nl fs j nb ys b6 x6 k xs bs v v') (.tmp 75) = .c (.o K7) := by kernel_rfl
theorem e46 (v v' : Value) : evu (z11 i nl fs j nb ys b6 x6 k xs bs v v') (.tmp 80) = .c (.i .i64 (off14 fs j)) := by kernel_rfl
theorem e47 (v v' v'' : Value) : evu (z13 i nl fs j nb ys b6 x6 k xs bs v v' v'') (.tmp 81) = .c (.v v'') := by kernel_rfl
theorem e48 (v v' v'' : Value) : evu (z13 i nl fs j nb ys b6 x6 k xs bs v v' v'') (.tmp 82) = .c (.sl 5 nb ys) := by kernel_rfl
theorem f1t : get (z3 i nl fs j nb ys b6 x6 k xs bs).mem R7 = some (.krow 41 k 4 (.kp K7) xs) := by kernel_rfl
theorem e49 (v v' : Value) : get (z11 i nl fs j nb ys b6 x6 k xs bs v v').mem K7 = some (.row 5 true false bs) := by kernel_rfl
theorem e5a (v v' v'' : Value) : get (z13 i nl fs j nb ys b6 x6 k xs bs v v' v'').mem K7 = some (.row 5 true false bs) := by kernel_rfl
theorem e5b (v v' v'' : Value) : get (z13 i nl fs j nb ys b6 x6 k xs bs v v' v'').mem R7 = some (.krow 41 k 4 (.kp K7) xs) := by kernel_rfl
theorem y13 (v v' v'' : Value) : a53 Try.prog (z13 i nl fs j nb ys b6 x6 k xs bs v v' v'').mem 5 39 (.c (.sl 5 nb ys)) = some ys := by kernel_rfl
noncomputable def bs' : List D := bs.take (off14 fs j).toNat ++ ys.take (bs.length - (off14 fs j).toNat) ++ bs.drop ((off14 fs j).toNat + ys.length)
noncomputable def xs' : List D := xs.set k ((xs.getD k (.i 0)).put 4 (.l false (bs' fs j ys bs)))
def d6n (b6 : Bool) (x6 : List D) (zs : List D) : St := ⟨[(6, .c (.p 6 0)), (13, .c (.p 13 0))], [(6, .box [.sl 41 b6 x6]), (13, .box [.o R7]), (R7, .row 41 true false zs)]⟩
theorem f2B (zs ws : List D) (v v' v'' : Value) (m : Int) : a4r [6, 13] [6, 13, R7] { ({ (z13 i nl fs j nb ys b6 x6 k xs bs v v' v'') with mem := set (z13 i nl fs j nb ys b6 x6 k xs bs v v' v'').mem K7 (.row 5 true false ws) } : St).put (some 83) (.c (.i .i64 m)) with mem := set (set (set (z13 i nl fs j nb ys b6 x6 k xs bs v v' v'').mem K7 (.row 5 true false ws)) K7 (.row 5 false false ws)) R7 (.row 41 true false zs) } = d6n b6 x6 zs := by kernel_rfl
end
theorem g14 : ∀ n, n < 14 → (o14 n).guard = none ∧ (o14 n).dst = some (70 + n) := by
 intro n hn
 match n, hn with
 | 0, _ => exact ⟨by kernel_rfl, by kernel_rfl⟩
 | 1, _ => exact ⟨by kernel_rfl, by kernel_rfl⟩
 | 2, _ => exact ⟨by kernel_rfl, by kernel_rfl⟩
 | 3, _ => exact ⟨by kernel_rfl, by kernel_rfl⟩
 | 4, _ => exact ⟨by kernel_rfl, by kernel_rfl⟩
 | 5, _ => exact ⟨by kernel_rfl, by kernel_rfl⟩
 | 6, _ => exact ⟨by kernel_rfl, by kernel_rfl⟩
 | 7, _ => exact ⟨by kernel_rfl, by kernel_rfl⟩
 | 8, _ => exact ⟨by kernel_rfl, by kernel_rfl⟩
 | 9, _ => exact ⟨by kernel_rfl, by kernel_rfl⟩
 | 10, _ => exact ⟨by kernel_rfl, by kernel_rfl⟩
 | 11, _ => exact ⟨by kernel_rfl, by kernel_rfl⟩
 | 12, _ => exact ⟨by kernel_rfl, by kernel_rfl⟩
 | 13, _ => exact ⟨by kernel_rfl, by kernel_rfl⟩
end Ce
end Go.Proofs.Ytfogaejiehebeaa

set_option linter.unusedVariables false
set_option linter.unusedSimpArgs false
set_option maxRecDepth 100000
namespace Go.Proofs.Ytfogaejiehebeaa
open Go Go.AM
namespace Ce
theorem f1u (i : Int) (nl : Bool) (fs : List D) (j : Int) (nb : Bool) (ys : List D) (b6 : Bool) (x6 : List D) (k : Nat) (xs bs : List D) : a3z (fun _ => false) (z0 i nl fs j nb ys b6 x6 k xs bs) = z0 i nl fs j nb ys b6 x6 k xs bs := by kernel_rfl
theorem f2C : Try.prog.follows .mixedOrders = true := by kernel_rfl
theorem f1v : Region.lexTailB .any [o14 0, o14 1, o14 2, o14 3, o14 4, o14 5, o14 6, o14 7, o14 8, o14 9, o14 10, o14 11, o14 12, o14 13].toArray 13 = true := by kernel_rfl
theorem f2D : Try.prog.underlying 22 = some (.slice 41) := by kernel_rfl
theorem f2E : tyB Try.prog 41 = true := by kernel_rfl
theorem f2F : a0g Try.prog 39 = false := by kernel_rfl
theorem f2G : tyB Try.prog 39 = true := by kernel_rfl
theorem f2H : Try.prog.underlying 39 = some (.slice 5) := by kernel_rfl
theorem f2I : tyB Try.prog 5 = true := by kernel_rfl
theorem f2J : a0a Try.prog 5 = 1 := by kernel_rfl
theorem f2K : a0j Try.prog 39 = some 5 := by kernel_rfl
theorem f2L : (a0f Try.prog 41)[4]? = some (.sl 5) := by kernel_rfl
theorem f2M : a0g Try.prog 41 = true := by kernel_rfl
theorem f1w (d : D) (j : Nat) : elD Try.prog 41 d j = d.cell j := by unfold elD; rw [f2M]; rfl
theorem e5c {i : Int} {nl : Bool} {fs : List D} {j : Int} {nb : Bool} {ys : List D} {b6 : Bool} {x6 : List D} {k : Nat} {xs bs : List D} {N n0 : Nat} {F : Nat → Prop} {B M0 : a0B} {w0 : World} {e0 : a4s} {env : Env} {a : Act} {w : World} {nn : Nat}
  (h : Rel Try.prog N n0 B M0 w0 F e0 env (z0 i nl fs j nb ys b6 x6 k xs bs) a w) (hN : 84 ≤ N) (hi : i = k) (hj : inB j fs.length = true) (h0 : 0 ≤ off14 fs j) (h1 : (off14 fs j).toNat < bs.length) (hk : k < xs.length) :
  (a1i Try.prog 7 43).wpIn Fence.wide nn Try.prog (b8K Try.prog N n0 B M0 w0 F e0 (fun e st => some (e, st)) (.normal, d6n b6 x6 (xs' fs j ys k xs bs))) a w := by
 rw [c9s]
 obtain ⟨c, c1, c2, c3, c4⟩ := c1w e43
 have c3' : c.args = #[.tmp 81, .tmp 82] := by rw [← Array.toList_inj]; exact c3
 have c4' : c.argTypes = #[39, 39] := by rw [← Array.toList_inj]; exact c4
 have hg : ∀ (zs : List D) (a : Nat), (xs.set k zs.head!).getD a (.i 0) = if k = a ∧ a < xs.length then zs.head! else xs.getD a (.i 0) := by
  intro zs a
  rw [f26, f26, List.getElem?_set]
  by_cases hka : k = a
  ·subst hka
   simp [hk]
  ·simp [hka]
 have hgx : ∀ a : Nat, (xs' fs j ys k xs bs).getD a (.i 0) = if k = a then (xs.getD k (.i 0)).put 4 (.l false (bs' fs j ys bs)) else xs.getD a (.i 0) := by
  intro a
  unfold xs'
  rw [f26, List.getElem?_set]
  by_cases hka : k = a
  ·subst hka
   simp [hk]
  ·simp [hka, f26]
 have hv8 : ∀ v v', a1C Try.prog (z8 i nl fs j nb ys b6 x6 k xs bs v v').mem (evu (z8 i nl fs j nb ys b6 x6 k xs bs v v')) (evw (z8 i nl fs j nb ys b6 x6 k xs bs v v')) (o14 8) = some (true, .c (.el E14 (fs.getD j.toNat (.i 0)) 0)) := by
  intro v v'; rw [← hj]; exact y8 ..
 exact c81 (S4 := z4 i nl fs j nb ys b6 x6 k xs bs) (S5 := z5 i nl fs j nb ys b6 x6 k xs bs) (S6 := z6 i nl fs j nb ys b6 x6 k xs bs) (S7 := z7 i nl fs j nb ys b6 x6 k xs bs) (S8 := z8 i nl fs j nb ys b6 x6 k xs bs) (S9 := z9 i nl fs j nb ys b6 x6 k xs bs) (S10 := z10 i nl fs j nb ys b6 x6 k xs bs) (S11 := z11 i nl fs j nb ys b6 x6 k xs bs) (S12 := z12 i nl fs j nb ys b6 x6 k xs bs) (S13 := z13 i nl fs j nb ys b6 x6 k xs bs)
  (s1 := z1 i nl fs j nb ys b6 x6 k xs bs) (s2 := z2 i nl fs j nb ys b6 x6 k xs bs) (s3 := z3 i nl fs j nb ys b6 x6 k xs bs) (bs' := bs' fs j ys bs) (xs' := xs' fs j ys k xs bs)
  f2C f1v h hN (f1u ..)
  (g14 0 (by omega)).1 (g14 0 (by omega)).2 (g14 1 (by omega)).1 (g14 1 (by omega)).2 (g14 2 (by omega)).1 (g14 2 (by omega)).2 (g14 3 (by omega)).1 (g14 3 (by omega)).2 (g14 4 (by omega)).1 (g14 4 (by omega)).2 (g14 5 (by omega)).1 (g14 5 (by omega)).2 (g14 6 (by omega)).1 (g14 6 (by omega)).2 (g14 7 (by omega)).1 (g14 7 (by omega)).2 (g14 8 (by omega)).1 (g14 8 (by omega)).2 (g14 9 (by omega)).1 (g14 9 (by omega)).2 (g14 10 (by omega)).1 (g14 10 (by omega)).2 (g14 11 (by omega)).1 (g14 11 (by omega)).2 (g14 12 (by omega)).1 (g14 12 (by omega)).2 (g14 13 (by omega)).1 (g14 13 (by omega)).2
  (y0 ..) rfl (y1 ..) rfl (y2 ..) rfl
  op3 (f1p ..) (f1q ..) (f1t ..) f2D f2E hi
  (fun _ => rfl) op4 f1j (fun _ => f1r ..) (fun _ _ => rfl) (fun _ _ => f1s ..) op5 f2F f2G (fun _ _ => rfl)
  (fun _ _ => y6 ..) (fun _ _ => rfl) (fun _ _ => y7 ..) (fun _ _ => rfl) hv8 (fun _ _ => rfl) (fun _ _ => y9 ..) (fun _ _ => rfl) (fun _ _ => y10 ..) (fun _ _ => rfl)
  (fun _ _ => e45 ..) (fun _ _ => e46 ..) (fun _ _ => e49 ..)
  f2z f2H f2I f2J h0 h1
  (fun _ _ _ => rfl) (fun _ _ _ => y12 ..) (fun _ _ _ => rfl) (fun _ _ _ => e47 ..) (fun _ _ _ => e48 ..) c1 c2 c3' c4'
  f2K (fun _ _ _ => e5a ..) (fun _ _ _ => e5b ..) (fun _ _ _ => y13 ..)
  rfl (by unfold xs'; rw [List.length_set]) (fun a b hab => by
   rw [f1w, f1w, hgx]
   by_cases hka : k = a
   ·rw [if_pos hka, a1L, if_neg (fun hb => hab ⟨hka.symm, hb⟩), hka]
   ·rw [if_neg hka]) (by rw [f1w, hgx, if_pos rfl, a1L, if_pos rfl]) f2L (by decide)
  (fun v v' v'' m => f2B ..)
theorem e14 : E14 = 63 := by kernel_rfl
theorem f2N {N : Nat} (h : okC N (a1i Try.prog 7 43) = true) : 84 ≤ N := by
 rw [c9s] at h
 simp only [okC] at h
 have := c05 h (o14 13) (by simp) 83 (g14 13 (by omega)).2
 exact this
def f1x : Sh := { tmps := [(1, .c (.i .i64)), (6, .c (.p 6 0)), (10, .c (.sl 63)), (11, .c (.i .i64)), (12, .c (.sl 5)), (13, .c (.p 13 0))], mem := [(6, .box [.sl 41]), (13, .box [.o R7]), (R7, .krow 41 4 K7), (K7, .row 5 true)] }
noncomputable def c43 (i : Int) (fs : List D) (j : Int) (k : Nat) (xs : List D) (nK : Bool) (bs : List D) : Bool :=
 ((((decide (i = k) && inB j fs.length) && decide (0 ≤ off14 fs j)) && decide ((off14 fs j).toNat < bs.length)) && !nK) && decide (k < xs.length)
noncomputable def A43 (L : List Lf) : List (Bool × (Ex × St)) := [(c43 (li L 0) (ll L 2) (li L 3) (ln L 8) (ll L 9) (lb L 10) (ll L 11), (.normal, d6n (lb L 6) (ll L 7) (xs' (ll L 2) (li L 3) (ll L 5) (ln L 8) (ll L 9) (ll L 11))))]
noncomputable def zn (i : Int) (nl : Bool) (fs : List D) (j : Int) (nb : Bool) (ys : List D) (b6 : Bool) (x6 : List D) (k : Nat) (xs : List D) (nK : Bool) (bs : List D) : St :=
 ⟨f2h i nl fs j nb ys, [(6, .box [.sl 41 b6 x6]), (13, .box [.o R7]), (R7, .krow 41 k 4 (.kp K7) xs), (K7, .row 5 true nK bs)]⟩
theorem f1y (L : List Lf) : a0x f1x L = zn (li L 0) (lb L 1) (ll L 2) (li L 3) (lb L 4) (ll L 5) (lb L 6) (ll L 7) (ln L 8) (ll L 9) (lb L 10) (ll L 11) := by kernel_rfl
theorem law43 : a3n Try.prog 0 (a1i Try.prog 7 43) (d5x f1x A43) := by
 intro st alts hst x hx N n0 F B M0 w0 e0 env a w hX hF hok hrel Fe nn hFe
 have hFe : Fe = Fence.wide := hFe
 subst hFe
 have hq := a93 (sh := f1x) (A := A43) (Q := fun st x => ∃ i nl fs j nb ys b6 x6 k xs bs, st = z0 i nl fs j nb ys b6 x6 k xs bs ∧ x = (.normal, d6n b6 x6 (xs' fs j ys k xs bs)) ∧ i = k ∧ inB j fs.length = true ∧ 0 ≤ off14 fs j ∧ (off14 fs j).toNat < bs.length ∧ k < xs.length) (fun L x hx => by
  unfold A43 at hx
  cases hc : c43 (li L 0) (ll L 2) (li L 3) (ln L 8) (ll L 9) (lb L 10) (ll L 11) with
  | false => rw [hc] at hx; cases hx
  | true =>
   rw [hc] at hx
   have hx := Option.some.inj hx
   unfold c43 at hc
   simp only [f20, decide_eq_true_eq, Bool.not_eq_true'] at hc
   obtain ⟨⟨⟨⟨⟨h1, h2⟩, h3⟩, h4⟩, h5⟩, h6⟩ := hc
   refine ⟨_, lb L 1, _, _, lb L 4, _, _, _, _, _, _, (f1y L).trans ?_, hx.symm, h1, h2, h3, h4, h6⟩
   rw [h5]
   exact rfl) st alts hst x hx
 obtain ⟨i, nl, fs, j, nb, ys, b6, x6, k, xs, bs, e1, e2, h1, h2, h3, h4, h5⟩ := hq
 subst e1 e2
 exact e5c hrel (f2N hok) h1 h2 h3 h4 h5
end Ce
end Go.Proofs.Ytfogaejiehebeaa

