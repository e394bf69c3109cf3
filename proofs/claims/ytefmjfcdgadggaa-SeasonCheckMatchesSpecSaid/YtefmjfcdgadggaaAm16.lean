/- The abstract machine: stores. -/
import Derived.Test.YtefmjfcdgadggaaAm15
set_option linter.all false
namespace Go.AM
open Go

theorem seg_get {α : Type} (l vs : List α) (o j : Nat) (h : o + vs.length ≤ l.length) : (l.take o ++ vs ++ l.drop (o + vs.length))[j]? = if o ≤ j ∧ j < o + vs.length then vs[j - o]? else l[j]? := by
  have hl : (l.take o).length = o := by rw [List.length_take]; omega
  by_cases h1 : j < o
  · rw [if_neg (by omega), List.append_assoc, List.getElem?_append_left (by omega), List.getElem?_take, if_pos h1]
  · by_cases h2 : j < o + vs.length
    · rw [if_pos (by omega), List.append_assoc, List.getElem?_append_right (by omega), hl, List.getElem?_append_left (by omega)]
    · rw [if_neg (by omega), List.getElem?_append_right (by simp; omega), List.getElem?_drop]
      congr 1
      simp only [List.length_append, hl]; omega
theorem seg_sub {α : Type} (l vs : List α) (base off n : Nat) (h : off + vs.length ≤ n) (hn : base + n ≤ l.length) :
    ((l.take (base + off) ++ vs ++ l.drop (base + off + vs.length)).drop base).take n = ((l.drop base).take n).take off ++ vs ++ ((l.drop base).take n).drop (off + vs.length) := by
  apply List.ext_getElem?
  intro j
  rw [seg_get _ _ _ _ (by rw [List.length_take, List.length_drop]; omega), List.getElem?_take]
  by_cases hj : j < n
  · rw [if_pos hj, List.getElem?_drop, seg_get _ _ _ _ (by omega)]
    by_cases h1 : off ≤ j ∧ j < off + vs.length
    · rw [if_pos h1, if_pos (by omega)]; congr 1; omega
    · rw [if_neg h1, if_neg (by omega), List.getElem?_take, if_pos hj, List.getElem?_drop]
  · rw [if_neg hj, if_neg (by omega), List.getElem?_take, if_neg hj]
theorem seg_length {α : Type} (l vs : List α) (o : Nat) (h : o + vs.length ≤ l.length) : (l.take o ++ vs ++ l.drop (o + vs.length)).length = l.length := by simp; omega
theorem All2.set {α β : Type} {R : α → β → Prop} {xs : List α} {ys : List β} (h : All2 R xs ys) (i : Nat) {x : α} {y : β} (hxy : R x y) : All2 R (xs.set i x) (ys.set i y) :=
  .of_get (by simp [h.length]) fun j a b ha hb => by
    rw [List.getElem?_set] at ha hb
    split at ha
    · rename_i hij
      rw [if_pos hij] at hb
      split at ha
      · rw [if_pos (by rw [← h.length]; assumption)] at hb
        simp only [Option.some.injEq] at ha hb
        subst ha hb
        exact hxy
      · cases ha
    · rename_i hij
      rw [if_neg hij] at hb
      exact h.get2 ha hb
theorem All2.setl {α β : Type} {R : α → β → Prop} {xs : List α} {ys : List β} (h : All2 R xs ys) (i : Nat) {x : α} (hx : ∀ y, ys[i]? = some y → R x y) : All2 R (xs.set i x) ys :=
  .of_get (by simp [h.length]) fun j a b ha hb => by
    rw [List.getElem?_set] at ha
    split at ha
    · rename_i hij
      split at ha
      · simp only [Option.some.injEq] at ha
        subst ha hij
        exact hx b hb
      · cases ha
    · exact h.get2 ha hb
section
variable {P : Program} {N n0 kb : Nat} {F : Nat → Prop} {B M0 : Stab} {w0 : World} {e0 env : Env} {st : St} {a : Act} {w : World}
theorem storeAt_sound {S : Stab} {x : C} {u : Value} (hx : CRel P env S w x u) {base esz ix : Nat} (hesz : 0 < esz) : ∀ {n j : Nat} {cs cs' : List C} {us : List Value}, All2 (CRel P env S w) cs us → storeAt cs base esz ix x n j = some cs' →
    All2 (CRel P env S w) cs' (if j ≤ ix ∧ ix < j + n then us.set (base + ix * esz) u else us) ∧ cs'.length = cs.length ∧ ∀ i, j ≤ i → i < j + n → base + i * esz < cs.length
  | 0, j, cs, cs', us, hr, h => by
    simp only [storeAt, Option.some.injEq] at h
    subst h
    rw [if_neg (by omega)]
    exact ⟨hr, rfl, fun i h1 h2 => by omega⟩
  | n + 1, j, cs, cs', us, hr, h => by
    simp only [storeAt] at h
    split at h
    · rename_i cs1 hcs1
      obtain ⟨h1, h2, h3⟩ := storeAt_sound hx hesz hr hcs1
      split at h
      · rename_i y hy
        cases hk : sameKind x y with
        | false => rw [hk] at h; cases h
        | true =>
          rw [hk] at h
          simp only [cond_true, Option.some.injEq] at h
          have hlt : base + j * esz < cs1.length := (List.getElem?_eq_some_iff.1 hy).1
          subst h
          refine ⟨?_, by simp [h2], fun i hi1 hi2 => ?_⟩
          · by_cases hij : ix = j
            · subst hij
              rw [if_pos (by omega)]
              rw [if_neg (by omega)] at h1
              have hb : Nat.beq ix ix = true := by simp
              rw [hb]
              refine h1.set _ ?_
              cases x <;> cases y <;> simp only [sameKind] at hk <;> try (cases hk; done)
              all_goals simpa [selC, CRel] using hx
            · have hb : Nat.beq ix j = false := by rw [beq_eq']; simpa using hij
              rw [hb]
              have hcond : (j ≤ ix ∧ ix < j + (n + 1)) ↔ (j + 1 ≤ ix ∧ ix < j + 1 + n) := by omega
              simp only [hcond]
              refine h1.setl _ fun v hv => ?_
              have hyv := h1.get2 hy hv
              cases x <;> cases y <;> simp only [sameKind] at hk <;> try (cases hk; done)
              all_goals first
                | (have hkk := eq_of_beq hk; subst hkk; simpa [selC, CRel] using hyv)
                | simpa [selC, CRel] using hyv
          · by_cases hij : i = j
            · subst hij; rw [← h2]; exact hlt
            · exact h3 i (by omega) (by omega)
      · cases h
    · cases h
theorem chg_setRow {blk : Nat} {cur cur' : Array Value} {T : TypeId} {fr : Nat × Nat} {Mt : Stab} (hg : w.heap[blk]? = some (.cells cur T fr)) (hs : cur'.size = cur.size) (hM : ∀ o, ¬ Mt blk o → cur'[o]? = cur[o]?) : Chg Mt w (w.setRow blk cur') := by
  refine ⟨rfl, rfl, rfl, by simp, ?_, ?_⟩
  · intro b c T' fr' hb
    by_cases hbb : b = blk
    · subst hbb
      rw [hg] at hb
      simp only [Option.some.injEq, Go.Obj.cells.injEq] at hb
      obtain ⟨rfl, rfl, rfl⟩ := hb
      exact ⟨cur', setRow_heap w b cur cur' T fr hg, hs, hM⟩
    · exact ⟨c, by rw [setRow_other w blk b cur' hbb]; exact hb, rfl, fun _ _ => rfl⟩
  · intro b ob hb hno
    by_cases hbb : b = blk
    · subst hbb
      rw [hg] at hb
      simp only [Option.some.injEq] at hb
      subst hb
      rw [setRow_heap w b cur cur' T fr hg]
      have : cur' = cur := Array.ext_getElem? fun o => hM o (hno o)
      rw [this]
    · rw [setRow_other w blk b cur' hbb]; exact hb
theorem seg_array {cur : Array Value} {vs : List Value} {o : Nat} (h : o + vs.length ≤ cur.size) (j : Nat) : ((cur.toList.take o ++ vs ++ cur.toList.drop (o + vs.length)).toArray)[j]? = if o ≤ j ∧ j < o + vs.length then vs[j - o]? else cur[j]? := by
  rw [List.getElem?_toArray, seg_get _ _ _ _ (by simpa using h)]
  simp
/-- The model's store, at a place in a block of cells. -/
theorem run_storeAt {T : TypeId} {vx : Value} {blk o : Nat} {cur : Array Value} {E : TypeId} (hg : w.heap[blk]? = some (.cells cur E (0, 0))) (hs : vx.cells.size = sizeB P T) (hne : sizeB P T ≠ 0) (h1 : ∀ u ∈ vx.cells.toList, u.oneCell' = true) (hl : o + vx.cells.toList.length ≤ cur.size) :
    (Instr.storeAt T (.pointer (some ⟨blk, o, none⟩)) vx).run P w = .ok () (w.setRow blk (cur.toList.take o ++ vx.cells.toList ++ cur.toList.drop (o + vx.cells.toList.length)).toArray) := by
  have := run_storeCells_at P blk o E vx.cells.toList 0 cur w hg (by simpa using hl) h1
  simp only [Nat.add_zero] at this
  simp only [Instr.storeAt, Instr.sureAddr, Sem.run_bind, Sem.run_pure, Result.andThen_ok, storeVar, run_sizeOf' (info_of_size hne), hs, ne_eq, not_true_eq_false, if_false, this]
theorem box_store {key : Nat} {cs cs' : List C} {o : Nat} {vs : List Value} (h : Rel P N n0 B M0 w0 F e0 env st a w) (hg : get st.mem key = some (.box cs)) {cur : Array Value} {E : TypeId} (hh : w.heap[(env key).blk]? = some (.cells cur E (0, 0))) (hsz : (env key).base + cs.length ≤ cur.size)
    (hlen : cs'.length = cs.length) (hin : o + vs.length ≤ cs.length)
    (hr : ∀ S' w', Keeps w (Sof P B M0 n0 env st.mem w) w' S' → All2 (CRel P env S' w') cs' (((cur.toList.drop (env key).base).take cs.length).take o ++ vs ++ ((cur.toList.drop (env key).base).take cs.length).drop (o + vs.length))) :
    Rel P N n0 B M0 w0 F e0 env { st with mem := set st.mem key (.box cs') } a (w.setRow (env key).blk (cur.toList.take ((env key).base + o) ++ vs ++ cur.toList.drop ((env key).base + o + vs.length)).toArray) := by
  have hfit : (env key).base + o + vs.length ≤ cur.size := by omega
  refine Rel.upd h hg (fun b x => b = (env key).blk ∧ (env key).base + o ≤ x ∧ x < (env key).base + o + vs.length) ?_ ?_ ?_ (fun _ => trivial) ?_ trivial ?_ ?_
  · refine chg_setRow hh (by simp; omega) fun x hx => ?_
    rw [seg_array hfit, if_neg (fun hc => hx ⟨rfl, hc⟩)]
  · rintro b x ⟨rfl, h1, h2⟩; exact ⟨rfl, by omega, by omega⟩
  · rintro b x ⟨rfl, h1, h2⟩; exact ⟨rfl, h1, by omega⟩
  · intro b hb; exact setRow_other _ _ _ _ hb
  · intro S' hk
    refine ⟨_, E, setRow_heap w _ cur _ E _ hh, by simp; omega, ?_⟩
    have := hr S' _ hk
    rw [hlen]
    show All2 _ cs' (((cur.toList.take ((env key).base + o) ++ vs ++ cur.toList.drop ((env key).base + o + vs.length)).drop (env key).base).take cs.length)
    rw [seg_sub _ _ _ _ _ hin (by simpa using hsz)]
    exact this
  · intro e ex xs he; cases he
end
end Go.AM
