/- The abstract machine: a law's arguments as data, read. -/
import Derived.Test.YtefmjfcdgadggaaAm36
set_option linter.all false
namespace Go.AM
open Go

section
variable {H : Type} {enc : TypeId × Value → H} {P : Program} {w : World} {spare : Nat → Bool} {held : Bool}
def Sw (w : World) : Stab := fun b _ => b < w.heap.size
def RT (P : Program) (w : World) (m : Nat) (kd : CK × D) (v : Value) : Prop := TyK P m kd.1 kd.2 ∧ RepD P w (Sw w) kd.1 kd.2 v
theorem mapM_some {α β : Type} {f : α → Option β} : ∀ {l : List α} {r : List β}, l.mapM f = some r → All2 (fun x y => f x = some y) l r
  | [], r, h => by simp at h; subst h; trivial
  | x :: l, r, h => by
    simp only [List.mapM_cons, Option.bind_eq_bind, Option.bind_eq_some_iff, Option.pure_def, Option.some.injEq] at h
    obtain ⟨y, h1, ys, h2, rfl⟩ := h
    exact ⟨h1, mapM_some h2⟩
theorem contig_split {n : Nat} : ∀ {fs : List Field} {o : Nat} {cs : List Value} {kds : Field → List (CK × D) → Prop} {R : CK × D → Value → Prop}, contig P o fs n = true → cs.length = n →
    (∀ f ∈ fs, ∃ l, kds f l ∧ All2 R l ((cs.drop f.offset).take (sizeB P f.type)) ∧ l.length = sizeB P f.type) → ∃ ls : List (List (CK × D)), All2 kds fs ls ∧ All2 R ls.flatten (cs.drop o)
  | [], o, cs, kds, R, hc, hl, _ => by
    have := Nat.eq_of_beq_eq_true hc
    refine ⟨[], trivial, ?_⟩
    rw [List.drop_eq_nil_of_le (by omega)]
    trivial
  | f :: r, o, cs, kds, R, hc, hl, h => by
    simp only [contig, Bool.and_eq_true] at hc
    have ho := Nat.eq_of_beq_eq_true hc.1
    obtain ⟨l, h1, h2, h3⟩ := h f (by simp)
    obtain ⟨ls, h4, h5⟩ := contig_split hc.2 hl fun g hg => h g (by simp [hg])
    refine ⟨l :: ls, ⟨h1, h4⟩, ?_⟩
    rw [List.flatten_cons]
    have : cs.drop o = (cs.drop f.offset).take (sizeB P f.type) ++ cs.drop (o + sizeB P f.type) := by
      rw [ho, ← List.drop_drop, List.take_append_drop]
    rw [this]
    exact h2.append h5
theorem all2_flat {g : Field → List CK} : ∀ {fs : List Field} {ls : List (List (CK × D))}, All2 (fun f l => l.map Prod.fst = g f) fs ls → (ls.map (List.map Prod.fst)).flatten = fs.flatMap g
  | [], [], _ => rfl
  | f :: fs, l :: ls, h => by simp only [List.map_cons, List.flatten_cons, List.flatMap_cons, all2_flat h.2, h.1]
  | [], _ :: _, h => h.elim
  | _ :: _, [], h => h.elim
theorem chunks {R : CK × D → Value → Prop} {ks : List CK} {sz : Nat} {cs : List Value} : ∀ (len : Nat), len * sz ≤ cs.length → (∀ i, i < len → ∃ l : List (CK × D), l.map Prod.fst = ks ∧ All2 R l ((cs.drop (i * sz)).take sz)) →
    ∃ l : List (CK × D), l.map Prod.fst = (List.replicate len ks).flatten ∧ All2 R l (cs.take (len * sz))
  | 0, _, _ => ⟨[], by simp, by simp [All2]⟩
  | len + 1, hl, h => by
    rw [Nat.add_mul, Nat.one_mul] at hl
    obtain ⟨l, h1, h2⟩ := chunks len (by omega) fun i hi => h i (by omega)
    obtain ⟨l', h3, h4⟩ := h len (by omega)
    refine ⟨l ++ l', ?_, ?_⟩
    · rw [List.map_append, h1, h3, List.replicate_succ', List.flatten_append]; simp
    · rw [Nat.add_mul, Nat.one_mul, List.take_add]
      exact h2.append h4
def HH (enc : TypeId × Value → H) (P : Program) (w : World) (spare : Nat → Bool) (held : Bool) (m : Nat) : Prop := ∀ (n fuel : Nat) (T : TypeId) (cs : List Value) (d : DataW H) (ps : List MemPlace), flatB P n T = true → (kindsOf P n T).all (okK P m) = true → DataW.trod enc P w 0 spare held fuel T cs = some (d, ps) →
  ∃ kds : List (CK × D), kds.map Prod.fst = kindsOf P n T ∧ All2 (RT P w m) kds cs
theorem flat_one {n : Nat} {T : TypeId} (hf : flatB P (n + 1) T = true) (ha : isAggB P T = false) : ∃ k, kindsOf P (n + 1) T = [k] := by
  unfold flatB at hf
  unfold isAggB at ha
  unfold kindsOf
  split at hf <;> rename_i hu <;> simp only [hu] at ha ⊢ <;> first | exact ⟨_, rfl⟩ | (cases ha; done) | (cases hf; done)
theorem elem_rep {m' : Nat} {e : TypeId} {cs : List Value} {kds : List (CK × D)} (q1 : flatB P 12 e = true) (hk : kds.map Prod.fst = kinds P e) (h : All2 (RT P w m') kds cs) :
    ∃ x : D, TyEl P (TyK P m') e x ∧ ∀ (j : Nat) (k : CK), (kinds P e)[j]? = some k → ∃ v, cs[j]? = some v ∧ RepD P w (Sw w) k (elD P e x j) v := by
  have hty : All2 (TyK P m') (kinds P e) (kds.map Prod.snd) := by
    rw [← hk]
    refine .of_get (by simp) fun j x y hx hy => ?_
    rw [List.getElem?_map] at hx hy
    obtain ⟨kd, h1, rfl⟩ := Option.map_eq_some_iff.1 hx
    rw [h1] at hy
    cases hy
    obtain ⟨v, _, hv⟩ := h.get h1
    exact hv.1
  have hre : ∀ (j : Nat) (k : CK), (kinds P e)[j]? = some k → ∃ v, cs[j]? = some v ∧ RepD P w (Sw w) k ((kds.map Prod.snd).getD j (.i 0)) v := by
    intro j k hj
    rw [← hk, List.getElem?_map] at hj
    obtain ⟨kd, h1, rfl⟩ := Option.map_eq_some_iff.1 hj
    obtain ⟨v, h2, hv⟩ := h.get h1
    refine ⟨v, h2, ?_⟩
    rw [List.getD_eq_getElem?_getD, List.getElem?_map, h1]
    exact hv.2
  by_cases ha : isAggB P e = true
  · refine ⟨.a (kds.map Prod.snd), ?_, fun j k hj => ?_⟩
    · unfold TyEl; rw [if_pos ha]; exact ⟨_, rfl, hty⟩
    · unfold elD; rw [ha]; exact hre j k hj
  · have ha := eq_false_of_ne_true ha
    obtain ⟨k0, hk0⟩ := flat_one q1 ha
    have hk0 : kinds P e = [k0] := hk0
    have hl := hty.length
    rw [hk0] at hl hty hre
    match hq : kds.map Prod.snd, hl with
    | [x], _ =>
      rw [hq] at hty hre
      refine ⟨x, ?_, fun j k hj => ?_⟩
      · unfold TyEl; rw [ha]; exact ⟨k0, hk0, hty.1⟩
      · unfold elD; rw [ha]
        rw [hk0] at hj
        obtain ⟨v, h1, h2⟩ := hre j k hj
        refine ⟨v, h1, ?_⟩
        cases j with
        | zero => exact h2
        | succ j => simp at hj
theorem okK_pos {m : Nat} {k : CK} (h : okK P m k = true) : ∃ m', m = m' + 1 := by
  cases m with
  | zero => cases h
  | succ m => exact ⟨m, rfl⟩
theorem trod_flat_step (m : Nat) (hE : ∀ m', m = m' + 1 → HH enc P w spare held m') : HH enc P w spare held m := by
  intro n
  induction n with
  | zero => intro fuel T cs d ps hf; cases hf
  | succ n ih =>
    intro fuel T cs d ps hf hk h
    cases fuel with
    | zero => cases h
    | succ fuel =>
    unfold DataW.trod at h
    split at h
    · rename_i b hu
      simp only [kindsOf, hu, List.all_cons, List.all_nil, Bool.and_true] at hk ⊢
      obtain ⟨m', rfl⟩ := okK_pos hk
      exact ⟨[(.bool, .b b)], rfl, ⟨⟨b, rfl⟩, .bool (.b b)⟩, trivial⟩
    · rename_i k k' i hu
      split at h
      · rename_i hw
        obtain ⟨rfl, hw⟩ := hw
        simp only [kindsOf, hu, List.all_cons, List.all_nil, Bool.and_true] at hk ⊢
        obtain ⟨m', rfl⟩ := okK_pos hk
        exact ⟨[(.int k', .i i)], rfl, ⟨⟨i, rfl, hw⟩, .int k' (.i i)⟩, trivial⟩
      · cases h
    all_goals first
      | (rename_i hu; simp [flatB, hu] at hf; done)
      | skip
    · rename_i x hu
      split at h
      · rename_i hl
        simp only [kindsOf, hu, List.all_cons, List.all_nil, Bool.and_true] at hk ⊢
        obtain ⟨m', rfl⟩ := okK_pos hk
        exact ⟨[(.str, .s x.data.toList)], rfl, ⟨⟨x.data.toList, rfl, by rw [Array.length_toList]; exact hl⟩, by have := RepD.str (P := P) (w := w) (S := Sw w) (.s x.data.toList); simpa [D.toS] using this⟩, trivial⟩
      · cases h
    · rename_i e hu
      simp only [kindsOf, hu, List.all_cons, List.all_nil, Bool.and_true] at hk ⊢
      obtain ⟨m', rfl⟩ := okK_pos hk
      exact ⟨[(.sl e, .l true [])], rfl, ⟨⟨true, [], rfl, fun _ => rfl, Nat.zero_le _, fun x hx => by simp at hx⟩, .nil e _ rfl rfl⟩, trivial⟩
    · rename_i e a len cap hu
      simp only [kindsOf, hu, List.all_cons, List.all_nil, Bool.and_true] at hk ⊢
      obtain ⟨m', rfl⟩ := okK_pos hk
      simp only [okK, Bool.and_eq_true] at hk
      obtain ⟨⟨⟨q1, q2⟩, q3⟩, q4⟩ := hk
      dsimp only at h
      split at h
      · rename_i hc
        obtain ⟨elems, he, h⟩ := Option.bind_eq_some_iff.1 h
        have hx := mapM_some he
        by_cases h0 : len = 0
        · subst h0
          exact ⟨[(.sl e, .l false [])], rfl, ⟨⟨false, [], rfl, nofun, Nat.zero_le _, nofun⟩, .emp e _ a cap rfl rfl hc.2.2⟩, trivial⟩
        · have q2 : sizeB P e = (kinds P e).length := Nat.eq_of_beq_eq_true q2
          have hsz : 0 < sizeB P e := by
            rcases Nat.eq_zero_or_pos (sizeB P e) with h | h
            · rw [h] at q4; cases q4
            · exact h
          have hel : ∀ i, ∃ p : D × (Nat → Value), i < len → TyEl P (TyK P m') e p.1 ∧ ∀ (j : Nat) (k : CK), (kinds P e)[j]? = some k → w.cell? (a.add (i * sizeB P e + j)) = some (p.2 j) ∧ RepD P w (Sw w) k (elD P e p.1 j) (p.2 j) := by
            intro i
            by_cases hi : i < len
            · obtain ⟨y, _, hy⟩ := hx.get (List.getElem?_range hi)
              obtain ⟨cs, hcs, hd⟩ := Option.bind_eq_some_iff.1 hy
              obtain ⟨_, hl, hcell⟩ := World.cells?_some hcs
              obtain ⟨kds, k1, k2⟩ := hE m' rfl 12 fuel e cs y.1 y.2 q1 q3 hd
              obtain ⟨x, x1, x2⟩ := elem_rep q1 k1 k2
              refine ⟨(x, fun j => cs.getD j undef), fun _ => ⟨x1, fun j k hj => ?_⟩⟩
              obtain ⟨v, h1, h2⟩ := x2 j k hj
              have hjl := (List.getElem?_eq_some_iff.1 h1).1
              have := hcell j (by omega)
              rw [Addr.add_add, h1] at this
              have e1 : cs.getD j undef = v := by rw [List.getD_eq_getElem?_getD, h1]; rfl
              simp only [e1]
              exact ⟨this, h2⟩
            · exact ⟨(.i 0, fun _ => undef), fun h => absurd h hi⟩
          obtain ⟨g, hg⟩ := Classical.axiomOfChoice hel
          have hks : 0 < (kinds P e).length := by omega
          have hspot : a.spot = none := by
            have := ((hg 0 (by omega)).2 0 _ (List.getElem?_eq_getElem hks)).1
            rw [Nat.zero_mul] at this
            exact World.cell?_spot this
          have hadd : ∀ n, a.add n = ⟨a.block, a.off + n, none⟩ := fun n => by
            unfold Addr.add; split
            · rename_i h; subst h; cases a; simp_all
            · rfl
          have hlen : ((List.range len).map fun i => (g i).1).length = len := by simp
          refine ⟨[(.sl e, .l false ((List.range len).map fun i => (g i).1))], rfl, ⟨⟨false, _, rfl, nofun, by rw [hlen]; omega, ?_⟩, ?_⟩, trivial⟩
          · intro x hx
            obtain ⟨i, hi, rfl⟩ := List.mem_map.1 hx
            exact (hg i (List.mem_range.1 hi)).1
          · have ha : a = ⟨a.block, a.off, none⟩ := by cases a; simp_all
            rw [ha]
            have := RepD.sl (P := P) (w := w) (S := Sw w) e (.l false ((List.range len).map fun i => (g i).1)) a.block a.off cap (fun i j => (g i).2 j) rfl q2 (by simp only [D.items]; omega) hc.2.2
              (fun i hi j hj => by
                simp only [D.items, hlen] at hi
                have := ((hg i hi).2 j _ (List.getElem?_eq_getElem hj)).1
                rw [hadd, ← Nat.add_assoc] at this
                exact ⟨cell_lt this, this⟩)
              (fun i hi j k hk => by
                simp only [D.items, hlen] at hi
                have := ((hg i hi).2 j k hk).2
                simp only [D.items, List.getD_eq_getElem?_getD, List.getElem?_map, List.getElem?_range hi]
                exact this)
            simpa only [D.items, hlen] using this
      · cases h
    · rename_i fs hu
      split at h
      · rename_i hl
        simp only [flatB, hu, Bool.and_eq_true, List.all_eq_true] at hf
        simp only [kindsOf, hu] at hk ⊢
        obtain ⟨xs, hxs, _⟩ := Option.map_eq_some_iff.1 h
        have hx := mapM_some hxs
        have := contig_split (P := P) (kds := fun f l => l.map Prod.fst = kindsOf P n f.type) (R := RT P w m) hf.1 hl (fun f hfm => by
          obtain ⟨j, hj⟩ := List.getElem?_of_mem hfm
          obtain ⟨y, _, hy⟩ := hx.get hj
          have hff := hf.2 f hfm
          have hkf : (kindsOf P n f.type).all (okK P m) = true := by
            rw [List.all_eq_true] at hk ⊢
            exact fun k hkk => hk k (List.mem_flatMap.2 ⟨f, hfm, hkk⟩)
          obtain ⟨l, h1, h2⟩ := ih fuel f.type _ y.1 y.2 hff.1 hkf hy
          refine ⟨l, h1, h2, ?_⟩
          have : l.length = (l.map Prod.fst).length := by simp
          rw [this, h1, Nat.eq_of_beq_eq_true hff.2])
        obtain ⟨ls, h1, h2⟩ := this
        refine ⟨ls.flatten, ?_, by simpa using h2⟩
        rw [List.map_flatten]
        exact all2_flat h1
      · cases h
    · rename_i len e hu
      split at h
      · rename_i hl
        simp only [flatB, hu, Bool.and_eq_true] at hf
        simp only [kindsOf, hu] at hk ⊢
        obtain ⟨xs, hxs, _⟩ := Option.map_eq_some_iff.1 h
        have hx := mapM_some hxs
        have e1 := hl.trans (Nat.eq_of_beq_eq_true hf.1.1)
        obtain ⟨l, h1, h2⟩ := chunks (R := RT P w m) (ks := kindsOf P n e) (sz := sizeB P e) len (Nat.le_of_eq e1.symm) fun i hi => by
          obtain ⟨y, _, hy⟩ := hx.get (List.getElem?_range hi)
          refine ih fuel e _ y.1 y.2 hf.1.2 ?_ hy
          rw [List.all_eq_true] at hk ⊢
          refine fun k hkk => hk k ?_
          cases len with
          | zero => omega
          | succ len => rw [List.replicate_succ, List.flatten_cons]; simp [hkk]
        refine ⟨l, h1, ?_⟩
        rw [← e1, List.take_length] at h2
        exact h2
      · cases h
    · cases h
theorem trod_flat : ∀ m, HH enc P w spare held m
  | 0 => trod_flat_step 0 nofun
  | m + 1 => trod_flat_step (m + 1) fun m' h => by cases h; exact trod_flat m
end
end Go.AM
