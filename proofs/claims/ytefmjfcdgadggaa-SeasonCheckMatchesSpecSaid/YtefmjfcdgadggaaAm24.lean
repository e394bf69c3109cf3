/- The abstract machine: back from a call, the state. -/
import Derived.Test.YtefmjfcdgadggaaAm23
set_option linter.all false
namespace Go.AM
open Go

section
variable {P : Program} {N n0 kb : Nat} {F : Nat → Prop} {B M0 : Stab} {w0 : World} {e0 env : Env} {st : St} {a : Act} {w : World}
theorem call_back (h : Rel P N n0 B M0 w0 F e0 env st a w) {acc : List Ref} (hnd : Nodup acc) {mem' : AL Obj} (hh : handed st.mem acc acc 0 = some mem') {res : Res} {v : Value} {w' : World}
    (hp : CallPost P (Sof P B M0 n0 env st.mem w) (envC acc env) mem' w res v w') {base : Nat} {news : List Nat} (hfresh : ∀ k ∈ news, ¬ F k) (hnews : news = newKeys acc.length base res.2) (hc : closedRes res = true)
    (hnc : noClash res.2 news acc 0 = true) {mem2 : AL Obj} (hm : backMem acc base res.2 acc 0 (invalAll news st).mem = some mem2) :
    ∃ env2, Rel P N n0 B M0 w0 F e0 env2 { tmps := (invalAll news st).tmps, mem := setNew acc base res.2 mem2 } a w' ∧
      VRel P env2 (Sof P B M0 n0 env2 (setNew acc base res.2 mem2) w') w' (resultOf (res.1.map (backV acc base))) v := by
  obtain ⟨env1, M1, hv⟩ := hp
  simp only [closedRes, Bool.and_eq_true] at hc
  obtain ⟨⟨hc1, hc2⟩, hc3⟩ := hc
  obtain ⟨g1, g2, g3⟩ := handed_get hh
  generalize hmF : setNew acc base res.2 mem2 = memF
  -- the new names
  have henv1 : ∀ (i : Nat) (r : Ref), acc[i]? = some r → env1 i = ⟨(env r.key).blk, (env r.key).base + r.off, (env r.key).head⟩ := by
    intro i r hi
    rw [M1.fx i (by rw [g2]; exact (List.getElem?_eq_some_iff.1 hi).1), envC_get hi]
  have hhand : ∀ (i : Nat) (r : Ref), acc[i]? = some r → ∃ ob o, get mem' i = some ob ∧ get st.mem r.key = some o ∧
      ((∃ cs sub sub', o = .box cs ∧ subBox cs r = some sub ∧ renCs acc sub = some sub' ∧ ob = .box sub') ∨ (∃ e ex nl xs, o = .row e ex nl xs ∧ r.off = 0 ∧ ob = o) ∨ (∃ kt vt es, o = .map kt vt es ∧ r.off = 0 ∧ ob = o)) := by
    intro i r hi
    have hlt := (List.getElem?_eq_some_iff.1 hi).1
    have := g3 i hlt
    rw [Nat.zero_add] at this
    obtain ⟨ob, hob⟩ := Option.isSome_iff_exists.1 this
    obtain ⟨j, r', e1, e2, o, h1, h2⟩ := g1 i ob hob
    rw [Nat.zero_add] at e1
    subst e1
    rw [hi] at e2
    simp only [Option.some.injEq] at e2
    subst e2
    exact ⟨ob, o, hob, h1, h2⟩
  have hoff : ∀ (i : Nat) (r : Ref), acc[i]? = some r → r.size = none → env1 i = env r.key := by
    intro i r hi hs
    rw [henv1 i r hi]
    have : r.off = 0 := by
      obtain ⟨ob, o, _, _, h2⟩ := hhand i r hi
      rcases h2 with ⟨cs, sub, sub', _, hsub, _⟩ | ⟨_, _, _, _, _, ho, _⟩ | ⟨_, _, _, _, ho, _⟩
      · exact ((subBox_some hsub).2.2.2 hs).1
      · exact ho
      · exact ho
    rw [this]
    rfl
  have hnewbase : ∀ key ∈ news, base ≤ key := by
    intro key hk
    rw [hnews] at hk
    obtain ⟨k, o, _, _, h3⟩ := mem_newKeys.1 hk
    omega
  have hF : ∀ key ob, get memF key = some ob →
      (∃ k o, acc.length ≤ k ∧ key = base + k ∧ key ∈ news ∧ get res.2 k = some o ∧ ob = backO acc base o) ∨
      (∃ i r o, acc[i]? = some r ∧ key = r.key ∧ key ∉ news ∧ get res.2 i = some o ∧ BackAt acc base (invalAll news st).mem r o ob) ∨
      (key ∉ news ∧ (∀ r ∈ acc, r.key ≠ key) ∧ ∃ ob0, get st.mem key = some ob0 ∧ ob = invalsO news ob0) := by
    intro key ob hg
    rw [← hmF, setNew_get, ← hnews] at hg
    by_cases hk : key ∈ news
    · rw [if_pos hk] at hg
      have hk' := hk
      rw [hnews] at hk'
      obtain ⟨k, o, h1, h2, h3⟩ := mem_newKeys.1 hk'
      cases hgk : get res.2 (key - base) with
      | none => rw [hgk] at hg; cases hg
      | some o' =>
        rw [hgk] at hg
        simp only [Option.map_some, Option.some.injEq] at hg
        have : key - base = k := by omega
        rw [this] at hgk
        exact .inl ⟨k, o', h2, h3, hk, hgk, hg.symm⟩
    · rw [if_neg hk] at hg
      rcases backMem_get hnd hm key ob hg with ⟨j, r, o, e1, e2, e3, e4⟩ | ⟨h1, h2⟩
      · rw [Nat.zero_add] at e3
        exact .inr (.inl ⟨j, r, o, e1, e2, hk, e3, e4⟩)
      · rw [invalAll_mem, if_neg hk] at h2
        cases hg0 : get st.mem key with
        | none => rw [hg0] at h2; cases h2
        | some ob0 =>
          rw [hg0] at h2
          simp only [Option.map_some, Option.some.injEq] at h2
          exact .inr (.inr ⟨hk, h1, ob0, rfl, h2.symm⟩)
  obtain ⟨env2, henv2⟩ : ∃ env2 : Env, env2 = fun k => if k ∈ news then env1 (k - base) else env k := ⟨_, rfl⟩
  have e_old : ∀ key, key ∉ news → env2 key = env key := fun key hk => by rw [henv2]; simp [hk]
  have e_new : ∀ k, base + k ∈ news → env2 (base + k) = env1 k := fun k hk => by rw [henv2]; simp [hk]
  have hslot : ∀ k o, get res.2 k = some o → SlotEq env1 env2 acc base k := by
    intro k o hg
    unfold SlotEq backKey
    cases hk : acc[k]? with
    | some r =>
      have hno := noClash_get hnc k r o hk (by rw [Nat.zero_add]; exact hg)
      simp only
      rw [e_old _ hno, henv1 k r hk]
      exact ⟨rfl, rfl, rfl⟩
    | none =>
      have hle : acc.length ≤ k := by simpa using hk
      have hin : base + k ∈ news := by rw [hnews]; exact mem_newKeys.2 ⟨k, o, get_mem hg, hle, rfl⟩
      simp only
      rw [e_new k hin]
      exact ⟨rfl, rfl, rfl⟩
  have hslots : ∀ ks : List Nat, (∀ k ∈ ks, ∃ o, get res.2 k = some o) → ∀ k ∈ ks, SlotEq env1 env2 acc base k := fun ks hks k hk => let ⟨o, ho⟩ := hks k hk; hslot k o ho
  have hclosed : ∀ k o, get res.2 k = some o → (∀ x ∈ keysOfO o, SlotEq env1 env2 acc base x) ∧ fullO o = true := by
    intro k o hg
    obtain ⟨q1, q2⟩ := closedMem_get hc2 k o (get_mem hg)
    exact ⟨hslots _ q1, q2⟩
  -- what the call may have written
  have hreal : ∀ k o, get res.2 k = some o → realO o → w.heap.size ≤ (env1 k).blk ∨ ∃ r o', r ∈ acc ∧ get st.mem r.key = some o' ∧ realO o' ∧ (env r.key).blk = (env1 k).blk := by
    intro k o hg hr
    obtain ⟨x, hx⟩ := mutO_ex (P := P) (s := env1 k) hr (hclosed k o hg).2
    rcases M1.mu k o _ x hg hx with ⟨k', ob, q1, q2⟩ | h1
    · obtain ⟨r, o', e1, e2, e3⟩ := mutC hh q1 q2
      obtain ⟨e4, e5⟩ := mutO_real e3
      exact .inr ⟨r, o', List.mem_of_getElem? e1, e2, e4, e5.symm⟩
    · exact .inl h1
  have hno : ∀ key ob0, get st.mem key = some ob0 → realO ob0 → (∀ r ∈ acc, r.key ≠ key) → ∀ x, ¬ Mut0 P (envC acc env) mem' (env key).blk x := by
    rintro key ob0 hg hr hne x ⟨k, ob, q1, q2⟩
    obtain ⟨r, o', e1, e2, e3⟩ := mutC hh q1 q2
    obtain ⟨e4, e5⟩ := mutO_real e3
    have hra := List.mem_of_getElem? e1
    exact h.ds r.key key o' ob0 e2 hg e4 hr (hne r hra) e5.symm
  have hMutOut : ∀ (i : Nat) (r : Ref) (n : Nat) (cs0 : List C), acc[i]? = some r → r.size = some n → get st.mem r.key = some (.box cs0) → ∀ x, Mut0 P (envC acc env) mem' (env r.key).blk x → (env r.key).base + r.off ≤ x ∧ x < (env r.key).base + r.off + n := by
    rintro i r n cs0 hi hs hg x ⟨k, ob, q1, q2⟩
    obtain ⟨r', o', e1, e2, e3⟩ := mutC hh q1 q2
    obtain ⟨e4, e5⟩ := mutO_real e3
    have hkey : r'.key = r.key := by
      by_cases hkk : r'.key = r.key
      · exact hkk
      · exact absurd e5.symm (h.ds r'.key r.key o' _ e2 hg e4 trivial hkk)
    have hik : k = i := nodup_get hnd e1 hi hkey
    subst hik
    obtain ⟨ob2, o2, f1, f2, f3⟩ := hhand k r hi
    rw [q1] at f1
    simp only [Option.some.injEq] at f1
    subst f1
    rw [hg] at f2
    simp only [Option.some.injEq] at f2
    subst f2
    rcases f3 with ⟨cs, sub, sub', hcs, hsub, hren, rfl⟩ | ⟨_, _, _, _, hcs, _⟩ | ⟨_, _, _, hcs, _⟩
    · have hl := (subBox_some hsub).2.2.1 n hs
      have hl' := renCs_length hren
      rw [envC_get hi] at q2
      obtain ⟨_, m2, m3⟩ := q2
      simp only at m2 m3
      exact ⟨m2, by omega⟩
    · cases hcs
    · cases hcs
  have hbox : ∀ (i : Nat) (r : Ref) (n : Nat) (cs : List C), acc[i]? = some r → r.size = some n → r.key ∉ news → get (invalAll news st).mem r.key = some (.box cs) → ∃ cs0, get st.mem r.key = some (.box cs0) ∧ cs = cs0.map (invalsC news) ∧ r.off + n ≤ cs0.length := by
    intro i r n cs hi hs hk hg
    rw [invalAll_mem, if_neg hk] at hg
    cases hg0 : get st.mem r.key with
    | none => rw [hg0] at hg; cases hg
    | some ob0 =>
      rw [hg0] at hg
      simp only [Option.map_some, Option.some.injEq] at hg
      obtain ⟨cs0, rfl, rfl⟩ := invalsO_eq_box hg
      refine ⟨cs0, rfl, rfl, ?_⟩
      obtain ⟨ob2, o2, f1, f2, f3⟩ := hhand i r hi
      rw [hg0] at f2
      simp only [Option.some.injEq] at f2
      subst f2
      rcases f3 with ⟨cs, sub, sub', hcs, hsub, hren, rfl⟩ | ⟨_, _, _, _, hcs, _⟩ | ⟨_, _, _, hcs, _⟩
      · simp only [Obj.box.injEq] at hcs
        subst hcs
        have q := subBox_some hsub
        have hl := q.2.2.1 n hs
        omega
      · cases hcs
      · cases hcs
  have hspl : ∀ (cs : List C) (off : Nat) (sub : List C), off + sub.length ≤ cs.length → (splice cs off sub).length = cs.length := by
    intro cs off sub hle
    unfold splice
    simp
    omega
  have hS1 : Keeps w' (Sof P (Sof P B M0 n0 env st.mem w) (Mut0 P (envC acc env) mem') w.heap.size env1 res.2 w') w' (Sof P B M0 n0 env2 memF w') := by
    intro b x u hS hcell
    refine ⟨⟨?_, hS.2.1, ?_⟩, hcell⟩
    · rcases hS.1 with h1 | h1 | ⟨k, ob, q1, q2⟩
      · exact h1.1
      · exact .inr (.inl (Nat.le_trans h.n0le h1))
      · obtain ⟨r, o', e1, e2, e3⟩ := mutC hh q1 q2
        rcases h.mu _ _ _ _ e2 e3 with h2 | h2
        · exact .inr (.inr h2)
        · exact .inr (.inl h2)
    · intro key ob hg hmut
      rcases hF key ob hg with ⟨k, o, q1, rfl, q3, q4, rfl⟩ | ⟨i, r, o, q1, rfl, q3, q4, q5⟩ | ⟨q1, q2, ob0, q3, rfl⟩
      · rw [e_new k q3, mutO_back] at hmut
        exact hS.2.2 k o q4 hmut
      · rw [e_old _ q3] at hmut
        rcases q5 with ⟨hs, rfl⟩ | ⟨n, sub, cs, hs, rfl, hn, hcs, rfl⟩
        · rw [mutO_back, ← hoff i r q1 hs] at hmut
          exact hS.2.2 i o q4 hmut
        · obtain ⟨cs0, c1, rfl, c3⟩ := hbox i r n cs q1 hs q3 hcs
          obtain ⟨m1, m2, m3⟩ := hmut
          rw [hspl _ _ _ (by simp; omega)] at m3
          simp only [List.length_map] at m3
          by_cases hin : (env r.key).base + r.off ≤ x ∧ x < (env r.key).base + r.off + n
          · refine hS.2.2 i _ q4 ?_
            rw [henv1 i r q1]
            exact ⟨m1, hin.1, by simp only; omega⟩
          · rcases hS.1 with h1 | h1 | h1
            · exact h1.2.2 r.key _ c1 ⟨m1, m2, m3⟩
            · have := obj_lt (h.ob _ _ c1) trivial
              omega
            · rw [m1] at h1
              exact hin (hMutOut i r n cs0 q1 hs c1 x h1)
      · rw [e_old _ q1, mutO_invals] at hmut
        obtain ⟨r1, r2⟩ := mutO_real hmut
        rcases hS.1 with h1 | h1 | h1
        · exact h1.2.2 key ob0 q3 hmut
        · have := obj_lt (h.ob _ _ q3) r1
          omega
        · rw [r2] at h1
          exact hno key ob0 q3 r1 q2 x h1
  have hall : ∀ key ob, get memF key = some ob → realO ob → w.heap.size ≤ (env2 key).blk ∨ ∃ r o', (r = key ∨ ((∃ q ∈ acc, q.key = r) ∧ ¬ ((∀ q ∈ acc, q.key ≠ key) ∧ key ∉ news))) ∧ get st.mem r = some o' ∧ realO o' ∧ (env r).blk = (env2 key).blk := by
    intro key ob hg hr
    have go : ∀ k o, get res.2 k = some o → realO o → (env1 k).blk = (env2 key).blk → ¬ ((∀ q ∈ acc, q.key ≠ key) ∧ key ∉ news) → w.heap.size ≤ (env2 key).blk ∨ ∃ r o', (r = key ∨ ((∃ q ∈ acc, q.key = r) ∧ ¬ ((∀ q ∈ acc, q.key ≠ key) ∧ key ∉ news))) ∧ get st.mem r = some o' ∧ realO o' ∧ (env r).blk = (env2 key).blk := by
      intro k o q1 q2 q3 q4
      rcases hreal k o q1 q2 with h1 | ⟨r, o', h1, h2, h3, h4⟩
      · exact .inl (by omega)
      · exact .inr ⟨r.key, o', .inr ⟨⟨r, h1, rfl⟩, q4⟩, h2, h3, h4.trans q3⟩
    rcases hF key ob hg with ⟨k, o, q1, rfl, q3, q4, rfl⟩ | ⟨i, r, o, q1, rfl, q3, q4, q5⟩ | ⟨q1, q2, ob0, q3, rfl⟩
    · exact go k o q4 (realO_back.1 hr) (by rw [e_new k q3]) fun hf => hf.2 q3
    · refine go i o q4 ?_ (by rw [e_old _ q3, henv1 i r q1]) fun hf => hf.1 r (List.mem_of_getElem? q1) rfl
      rcases q5 with ⟨_, rfl⟩ | ⟨n, sub, cs, _, rfl, _⟩
      · exact realO_back.1 hr
      · trivial
    · exact .inr ⟨key, ob0, .inl rfl, q3, realO_invals.1 hr, by rw [e_old _ q1]⟩
  have hreal1 : ∀ key ob, get memF key = some ob → realO ob → ¬ ((∀ q ∈ acc, q.key ≠ key) ∧ key ∉ news) → ∃ k o, get res.2 k = some o ∧ realO o ∧ (env1 k).blk = (env2 key).blk ∧ ((acc.length ≤ k ∧ key = base + k) ∨ ∃ r, acc[k]? = some r ∧ key = r.key ∧ key ∉ news) := by
    intro key ob hg hr hn
    rcases hF key ob hg with ⟨k, o, q1, rfl, q3, q4, rfl⟩ | ⟨i, r, o, q1, rfl, q3, q4, q5⟩ | ⟨q1, q2, ob0, q3, rfl⟩
    · exact ⟨k, o, q4, realO_back.1 hr, by rw [e_new k q3], .inl ⟨q1, rfl⟩⟩
    · refine ⟨i, o, q4, ?_, by rw [e_old _ q3, henv1 i r q1], .inr ⟨r, q1, rfl, q3⟩⟩
      rcases q5 with ⟨_, rfl⟩ | ⟨n, sub, cs, _, rfl, _⟩
      · exact realO_back.1 hr
      · trivial
    · exact absurd ⟨q2, q1⟩ hn
  have hsame : ∀ key ob0, get st.mem key = some ob0 → (∀ r ∈ acc, r.key ≠ key) → realO ob0 → w'.heap[(env key).blk]? = w.heap[(env key).blk]? := fun key ob0 hg hne hr => chg_block M1.ch (obj_lt (h.ob _ _ hg) hr) (hno key ob0 hg hr hne)
  have hobF : Keeps w (Sof P B M0 n0 env st.mem w) w' (Sof P B M0 n0 env2 memF w') → ∀ k ob, get memF k = some ob → ObjRel P env2 (Sof P B M0 n0 env2 memF w') w' (env2 k) ob := by
    intro hkeep key ob hg
    rcases hF key ob hg with ⟨k, o, q1, rfl, q3, q4, rfl⟩ | ⟨i, r, o, q1, rfl, q3, q4, q5⟩ | ⟨q1, q2, ob0, q3, rfl⟩
    · rw [e_new k q3]
      exact backO_sound hS1 (fun _ => rfl) (hclosed k o q4).1 (M1.ob k o q4)
    · rw [e_old _ q3]
      rcases q5 with ⟨hs, rfl⟩ | ⟨n, sub, cs, hs, rfl, hn, hcs, rfl⟩
      · rw [← hoff i r q1 hs]
        exact backO_sound hS1 (fun _ => rfl) (hclosed i o q4).1 (M1.ob i o q4)
      · obtain ⟨cs0, c1, rfl, c3⟩ := hbox i r n cs q1 hs q3 hcs
        obtain ⟨cur0, T, d1, d2, d3⟩ := h.ob _ _ c1
        obtain ⟨cur1, T1, f1, f2, f3⟩ := M1.ob i _ q4
        obtain ⟨cur', k1, k2, k3⟩ := M1.ch.cells _ _ _ _ d1
        rw [henv1 i r q1] at f1 f2 f3
        simp only at f1 f2 f3
        rw [k1] at f1
        have hcc : cur' = cur1 := by cases f1; rfl
        subst hcc
        refine ⟨cur', T, k1, by rw [hspl _ _ _ (by simp; omega)]; simp only [List.length_map]; omega, ?_⟩
        rw [hspl _ _ _ (by simp; omega)]
        simp only [List.length_map]
        refine All2.of_get ?_ ?_
        · rw [hspl _ _ _ (by simp; omega)]
          simp only [List.length_map, List.length_take, List.length_drop, Array.length_toList]
          omega
        · intro j c u hj hu
          unfold splice at hj
          rw [seg_get _ _ _ _ (by simp; omega)] at hj
          rw [List.getElem?_take] at hu
          split at hu
          · rename_i hjl
            rw [List.getElem?_drop] at hu
            split at hj
            · rename_i hin
              simp only [List.length_map] at hin
              rw [List.getElem?_map] at hj
              cases hsj : sub[j - r.off]? with
              | none => rw [hsj] at hj; cases hj
              | some c0 =>
                rw [hsj] at hj
                simp only [Option.map_some, Option.some.injEq] at hj
                subst hj
                refine backC_sound hS1 (fun k hk => (hclosed i _ q4).1 k ?_) (f3.get2 hsj ?_)
                · simp only [keysOfO, List.mem_flatMap]
                  exact ⟨c0, List.mem_of_getElem? hsj, hk⟩
                · rw [List.getElem?_take, if_pos (by omega), List.getElem?_drop, ← hu]
                  congr 1
                  omega
            · rename_i hout
              simp only [List.length_map] at hout
              rw [List.getElem?_map] at hj
              cases hsj : cs0[j]? with
              | none => rw [hsj] at hj; cases hj
              | some c0 =>
                rw [hsj] at hj
                simp only [Option.map_some, Option.some.injEq] at hj
                subst hj
                refine CRel.invals hkeep news e_old (d3.get2 hsj ?_)
                rw [List.getElem?_take, if_pos hjl, List.getElem?_drop, ← hu]
                have := k3 ((env r.key).base + j) fun hm0 => by
                  have hmo := hMutOut i r n cs0 q1 hs c1 _ hm0
                  exact hout ⟨by omega, by omega⟩
                simpa using this.symm
          · cases hu
    · rw [e_old _ q1]
      exact obj_invals hkeep news e_old (hsame key ob0 q3 q2) (h.ob key ob0 q3)
  refine ⟨env2, Rel.step h (Mut0 P (envC acc env) mem') M1.ch ?_ ?_ ?_ hobF ?_ ?_ ?_, ?_⟩
  · rintro b x ⟨k, ob, q1, q2⟩
    obtain ⟨r, o', e1, e2, e3⟩ := mutC hh q1 q2
    exact ⟨r.key, o', e2, e3⟩
  · intro key ob b x hg hmut
    have viaM : ∀ k o, get res.2 k = some o → MutO P (env1 k) o b x → w.heap.size ≤ b ∨ ∃ k' ob', get st.mem k' = some ob' ∧ MutO P (env k') ob' b x := by
      intro k o q1 q2
      rcases M1.mu k o b x q1 q2 with ⟨k', ob', m1, m2⟩ | h1
      · obtain ⟨r, o', e1, e2, e3⟩ := mutC hh m1 m2
        exact .inr ⟨r.key, o', e2, e3⟩
      · exact .inl h1
    rcases hF key ob hg with ⟨k, o, q1, rfl, q3, q4, rfl⟩ | ⟨i, r, o, q1, rfl, q3, q4, q5⟩ | ⟨q1, q2, ob0, q3, rfl⟩
    · rw [e_new k q3, mutO_back] at hmut
      exact viaM k o q4 hmut
    · rw [e_old _ q3] at hmut
      rcases q5 with ⟨hs, rfl⟩ | ⟨n, sub, cs, hs, rfl, hn, hcs, rfl⟩
      · rw [mutO_back, ← hoff i r q1 hs] at hmut
        exact viaM i o q4 hmut
      · obtain ⟨cs0, c1, rfl, c3⟩ := hbox i r n cs q1 hs q3 hcs
        obtain ⟨m1, m2, m3⟩ := hmut
        rw [hspl _ _ _ (by simp; omega)] at m3
        simp only [List.length_map] at m3
        exact .inr ⟨r.key, _, c1, m1, m2, m3⟩
    · rw [e_old _ q1, mutO_invals] at hmut
      exact .inr ⟨key, ob0, q3, hmut⟩
  · intro hkeep t x hx
    rw [invalAll_tmps] at hx
    cases hg : get st.tmps t with
    | none => rw [hg] at hx; cases hx
    | some y =>
      rw [hg] at hx
      simp only [Option.map_some, Option.some.injEq] at hx
      subst hx
      exact VRelA.invals hkeep news e_old (h.tm t y hg)
  · intro k1 k2 o1 o2 hg1 hg2 hr1 hr2 hne heq
    -- the two objects share a block
    by_cases hn1 : (∀ q ∈ acc, q.key ≠ k1) ∧ k1 ∉ news
    · by_cases hn2 : (∀ q ∈ acc, q.key ≠ k2) ∧ k2 ∉ news
      · rcases hF k1 o1 hg1 with ⟨k, o, q1, rfl, q3, q4, rfl⟩ | ⟨i, r, o, q1, rfl, q3, q4, q5⟩ | ⟨q1, q2, ob0, q3, rfl⟩
        · exact hn1.2 q3
        · exact hn1.1 r (List.mem_of_getElem? q1) rfl
        · rcases hF k2 o2 hg2 with ⟨k, o, p1, rfl, p3, p4, rfl⟩ | ⟨i, r, o, p1, rfl, p3, p4, p5⟩ | ⟨p1, p2, ob1, p3, rfl⟩
          · exact hn2.2 p3
          · exact hn2.1 r (List.mem_of_getElem? p1) rfl
          · rw [e_old _ q1, e_old _ p1] at heq
            exact h.ds k1 k2 ob0 ob1 q3 p3 (realO_invals.1 hr1) (realO_invals.1 hr2) hne heq
      · rcases hF k1 o1 hg1 with ⟨k, o, q1, rfl, q3, q4, rfl⟩ | ⟨i, r, o, q1, rfl, q3, q4, q5⟩ | ⟨q1, q2, ob0, q3, rfl⟩
        · exact hn1.2 q3
        · exact hn1.1 r (List.mem_of_getElem? q1) rfl
        · obtain ⟨k, o, p1, p2, p3, _⟩ := hreal1 k2 o2 hg2 hr2 hn2
          rw [e_old _ q1] at heq
          have hlt := obj_lt (h.ob _ _ q3) (realO_invals.1 hr1)
          rcases hreal k o p1 p2 with h1 | ⟨r, o', h1, h2, h3, h4⟩
          · omega
          · exact h.ds r.key k1 o' ob0 h2 q3 h3 (realO_invals.1 hr1) (q2 r h1) (by rw [h4, p3, ← heq])
    · obtain ⟨ka, oa, p1, p2, p3, p4⟩ := hreal1 k1 o1 hg1 hr1 hn1
      by_cases hn2 : (∀ q ∈ acc, q.key ≠ k2) ∧ k2 ∉ news
      · rcases hF k2 o2 hg2 with ⟨k, o, q1, rfl, q3, q4, rfl⟩ | ⟨i, r, o, q1, rfl, q3, q4, q5⟩ | ⟨q1, q2, ob0, q3, rfl⟩
        · exact hn2.2 q3
        · exact hn2.1 r (List.mem_of_getElem? q1) rfl
        · rw [e_old _ q1] at heq
          have hlt := obj_lt (h.ob _ _ q3) (realO_invals.1 hr2)
          rcases hreal ka oa p1 p2 with h1 | ⟨r, o', h1, h2, h3, h4⟩
          · omega
          · exact h.ds r.key k2 o' ob0 h2 q3 h3 (realO_invals.1 hr2) (q2 r h1) (by rw [h4, p3, heq])
      · obtain ⟨kb', ob', s1, s2, s3, s4⟩ := hreal1 k2 o2 hg2 hr2 hn2
        by_cases hkk : ka = kb'
        · subst hkk
          rcases p4 with ⟨u1, u2⟩ | ⟨r, u1, u2, u3⟩
          · rcases s4 with ⟨v1, v2⟩ | ⟨r', v1, v2, v3⟩
            · exact hne (by omega)
            · have := (List.getElem?_eq_some_iff.1 v1).1
              omega
          · rcases s4 with ⟨v1, v2⟩ | ⟨r', v1, v2, v3⟩
            · have := (List.getElem?_eq_some_iff.1 u1).1
              omega
            · rw [u1] at v1
              simp only [Option.some.injEq] at v1
              exact hne (by rw [u2, v2, v1])
        · exact M1.ds ka kb' oa ob' p1 s1 p2 s2 hkk (by rw [p3, s3, heq])
  · intro key e ex xs hg x hx
    have viaM : ∀ k, get res.2 k = some (.row e ex false xs) → B (env1 k).blk x ∨ n0 ≤ (env1 k).blk ∨ M0 (env1 k).blk x := by
      intro k q1
      rcases M1.pr k e ex xs q1 x hx with h1 | h1 | ⟨k', ob', m1, m2⟩
      · exact h1.1
      · exact .inr (.inl (Nat.le_trans h.n0le h1))
      · obtain ⟨r, o', e1, e2, e3⟩ := mutC hh m1 m2
        rcases h.mu _ _ _ _ e2 e3 with h2 | h2
        · exact .inr (.inr h2)
        · exact .inr (.inl h2)
    have backRow : ∀ {o : Obj}, backO acc base o = .row e ex false xs → o = .row e ex false xs := by
      intro o ho
      cases o with
      | box => cases ho
      | row => exact ho
      | map => cases ho
    rcases hF key _ hg with ⟨k, o, q1, rfl, q3, q4, q5⟩ | ⟨i, r, o, q1, rfl, q3, q4, q5⟩ | ⟨q1, q2, ob0, q3, q4⟩
    · rw [e_new k q3]
      rw [backRow q5.symm] at q4
      exact viaM k q4
    · rw [e_old _ q3]
      rcases q5 with ⟨hs, q5⟩ | ⟨n, sub, cs, hs, rfl, hn, hcs, q5⟩
      · rw [backRow q5.symm] at q4
        rw [← hoff i r q1 hs]
        exact viaM i q4
      · cases q5
    · rw [e_old _ q1]
      refine h.pr key e ex xs ?_ x hx
      rw [q3]
      cases ob0 with
      | box cs => rw [invalsO_box] at q4; cases q4
      | row => rw [invalsO_row] at q4; rw [q4]
      | map => rw [invalsO_map] at q4; cases q4
  · intro k hk
    exact e_old k fun hf => hfresh k hf hk
  · exact backR_sound hS1 hc3 (hslots _ (hereAll_get hc1)) hv
end
end Go.AM
