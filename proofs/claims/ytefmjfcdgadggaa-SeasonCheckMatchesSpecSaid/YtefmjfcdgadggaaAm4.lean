/- The abstract machine: operations that leave the memory alone say what the model's do. -/
import Derived.Test.YtefmjfcdgadggaaAm3
set_option linter.all false
namespace Go.AM
open Go

def CellsAt (w : World) (b o : Nat) (vs : List Value) : Prop := ∀ (j : Nat) (v : Value), vs[j]? = some v → w.cell? ⟨b, o + j, none⟩ = some v
theorem CellsAt.drop {w : World} {b o : Nat} {vs : List Value} (h : CellsAt w b o vs) (n : Nat) : CellsAt w b (o + n) (vs.drop n) := fun j v hv => by
  have := h (n + j) v (by simpa using hv)
  rwa [← Nat.add_assoc] at this
theorem CellsAt.take {w : World} {b o : Nat} {vs : List Value} (h : CellsAt w b o vs) (n : Nat) : CellsAt w b o (vs.take n) := fun j v hv => by
  rw [List.getElem?_take] at hv
  split at hv
  · exact h j v hv
  · cases hv
theorem cellsAt_of_heap {w : World} {b : Nat} {cur : Array Value} {T : TypeId} {fr : Nat × Nat} (h : w.heap[b]? = some (.cells cur T fr)) (base : Nat) : CellsAt w b base (cur.toList.drop base) := fun j v hv =>
  cell_of h (by simpa using hv)

/-! ### Types -/
theorem info_of_underlying {P : Program} {T : TypeId} {d : TypeDesc} (h : P.underlying T = some d) : ∃ i, P.info? T = some i := by
  unfold Program.underlying at h
  cases hi : P.info? T with
  | none => simp [hi] at h
  | some i => exact ⟨i, rfl⟩
theorem run_sizeOf' {P : Program} {T : TypeId} (h : (P.info? T).isSome = true) (w : World) : (sizeOf T).run P w = .ok (sizeB P T) w := by
  cases hi : P.info? T with
  | none => simp [hi] at h
  | some i => simp [sizeOf, typeInfo, hi, sizeB]
theorem info_of_size {P : Program} {T : TypeId} (h : sizeB P T ≠ 0) : (P.info? T).isSome = true := by
  unfold sizeB at h
  cases hi : P.info? T with
  | none => simp [hi] at h
  | some i => rfl
theorem run_sizeOf {P : Program} {T : TypeId} (h : tyB P T = true) (w : World) : (sizeOf T).run P w = .ok (sizeB P T) w := by
  unfold tyB at h
  cases hu : P.underlying T with
  | none => simp [hu] at h
  | some d =>
    obtain ⟨i, hi⟩ := info_of_underlying hu
    simp [sizeOf, typeInfo, hi, sizeB]
theorem tyB_of {P : Program} {T : TypeId} {d : TypeDesc} (h : P.underlying T = some d) : tyB P T = true := by simp [tyB, h]
theorem tyB_agg {P : Program} {T : TypeId} (h : isAggB P T = true) : tyB P T = true := by
  unfold isAggB at h; unfold tyB
  cases hu : P.underlying T <;> simp [hu] at h ⊢
theorem run_isAgg {P : Program} {T : TypeId} (h : tyB P T = true) (w : World) : (isAgg T).run P w = .ok (isAggB P T) w := by
  unfold tyB at h
  cases hu : P.underlying T with
  | none => simp [hu] at h
  | some d => unfold isAgg; rw [Sem.run_bind, run_underlying hu w]; unfold isAggB; rw [hu]; cases d <;> rfl
theorem run_load' {P : Program} {w : World} {a : Addr} {v : Value} (h : w.cell? a = some v) : (load a).run P w = .ok v w := by
  rw [run_load]; simp [h]
theorem run_loadVar_agg {P : Program} {T : TypeId} {w : World} {b o : Nat} {vs : List Value} (ha : isAggB P T = true) (hs : sizeB P T = vs.length) (h : CellsAt w b o vs) :
    (loadVar T ⟨b, o, none⟩).run P w = .ok (.agg vs.toArray) w := by
  have hl : (loadCells ⟨b, o, none⟩ vs.length).run P w = .ok vs.toArray w :=
    run_loadCells_list (P := P) w ⟨b, o, none⟩ vs fun j v hv => by rw [Addr.add_lit]; exact h j v hv
  unfold loadVar
  simp only [Sem.run_bind, run_isAgg (tyB_agg ha), Result.andThen_ok, ha, if_true, run_sizeOf (tyB_agg ha), hs, hl, Sem.run_pure]
theorem run_loadVar_one {P : Program} {T : TypeId} {w : World} {b o : Nat} {v : Value} (ha : isAggB P T = false) (ht : tyB P T = true) (h : w.cell? ⟨b, o, none⟩ = some v) :
    (loadVar T ⟨b, o, none⟩).run P w = .ok v w := by
  unfold loadVar
  simp only [Sem.run_bind, run_isAgg ht, Result.andThen_ok, ha, Bool.false_eq_true, if_false, run_load' h]
theorem kinds_one {P : Program} {e : TypeId} (h : isAggB P e = false) : (kinds P e).length ≤ 1 := by
  unfold kinds; unfold isAggB at h
  simp only [kindsOf]
  cases hu : P.underlying e with
  | none => simp
  | some d => cases d <;> simp [hu] at h ⊢
theorem getElem?_mkCs (d : D) (j0 : Nat) (ks : List CK) (j : Nat) : (mkCs d j0 ks)[j]? = (ks[j]?).map fun k => mkC k (d.cell (j0 + j)) := by
  induction ks generalizing j0 j with
  | nil => simp [mkCs]
  | cons k ks ih =>
    cases j with
    | zero => simp [mkCs]
    | succ j => simp only [mkCs, List.getElem?_cons_succ, ih]; congr 2; funext k; congr 2; omega
theorem getElem?_elCells (P : Program) (e : TypeId) (d : D) (j : Nat) : (elCells P e d)[j]? = ((kinds P e)[j]?).map fun k => mkC k (elD P e d j) := by
  unfold elCells elD
  cases ha : isAggB P e with
  | true => simp only [cond_true]; rw [getElem?_mkCs]; simp
  | false =>
    simp only [cond_false]
    have h1 := kinds_one ha
    cases hk : kinds P e with
    | nil => simp
    | cons k r =>
      rw [hk] at h1
      have : r = [] := by cases r <;> simp at h1 ⊢
      subst this
      cases j <;> simp
theorem length_elCells (P : Program) (e : TypeId) (d : D) : (elCells P e d).length = (kinds P e).length := by
  have h1 : ∀ j : Nat, (elCells P e d)[j]? = none ↔ (kinds P e)[j]? = none := fun j => by rw [getElem?_elCells, Option.map_eq_none_iff]
  have h2 := (h1 (elCells P e d).length).1 (by simp)
  have h3 := (h1 (kinds P e).length).2 (by simp)
  simp at h2 h3
  omega

/-! ### Cells of data -/
section
variable {P : Program} {env : Env} {S : Stab} {w : World}
theorem RepD.congr {k : CK} {d d' : D} {v : Value} (h : RepD P w S k d v) (h1 : d.toI = d'.toI) (h2 : d.toB = d'.toB) (h3 : d.toS = d'.toS) (h4 : d.isNil = d'.isNil) (h5 : d.items = d'.items) : RepD P w S k d' v := by
  cases h with
  | int k d => rw [h1]; exact .int k d'
  | bool d => rw [h2]; exact .bool d'
  | str d => rw [h3]; exact .str d'
  | nil e d a b => exact .nil e d' (h4 ▸ a) (h5 ▸ b)
  | emp e d ad cap a b hm => exact .emp e d' ad cap (h4 ▸ a) (h5 ▸ b) hm
  | sl e d b off cap cv a1 a2 a3 am a4 a5 =>
    rw [h5] at a3 a4 a5 ⊢
    exact .sl e d' b off cap cv (h4 ▸ a1) a2 a3 am a4 a5
theorem crel_mkC {k : CK} {d : D} {v : Value} (h : RepD P w S k d v) : CRel P env S w (mkC k d) v := by
  cases k with
  | int k => cases h; rfl
  | bool => cases h; rfl
  | str => cases h; rfl
  | oth => cases h
  | sl e =>
    show RepD P w S (.sl e) (.l d.isNil d.items) v
    cases h with
    | nil e d a b => exact .nil e _ (by rw [a]; rfl) (by rw [b]; rfl)
    | emp e d ad cap a b hm => exact .emp e _ ad cap (by rw [a]; rfl) (by rw [b]; rfl) hm
    | sl e d b off cap cv a1 a2 a3 am a4 a5 => exact .sl e (.l d.isNil d.items) b off cap cv (by rw [a1]; rfl) a2 a3 am a4 a5
theorem repD_of_crel_sl {e : TypeId} {n : Bool} {xs : List D} {v : Value} (h : CRel P env S w (.sl e n xs) v) : RepD P w S (.sl e) (.l n xs) v := h
theorem elCells_rel {e : TypeId} {d : D} {b o : Nat} (h : ∀ (j : Nat) (k : CK), (kinds P e)[j]? = some k → ∃ cv, w.cell? ⟨b, o + j, none⟩ = some cv ∧ RepD P w S k (elD P e d j) cv) :
    ∃ us, CellsAt w b o us ∧ All2 (CRel P env S w) (elCells P e d) us := by
  refine ⟨(List.range (kinds P e).length).map fun j => (w.cell? ⟨b, o + j, none⟩).getD undef, ?_, ?_⟩
  · intro j v hv
    rw [List.getElem?_map] at hv
    by_cases hj : j < (kinds P e).length
    · rw [List.getElem?_range hj] at hv
      simp only [Option.map_some, Option.some.injEq] at hv
      obtain ⟨cv, h1, _⟩ := h j _ (List.getElem?_eq_getElem hj)
      rw [h1] at hv ⊢
      exact congrArg some hv
    · rw [List.getElem?_eq_none (by simpa using hj)] at hv; cases hv
  · refine .of_get (by simp [length_elCells]) fun j x y hx hy => ?_
    rw [getElem?_elCells] at hx
    rw [List.getElem?_map] at hy
    cases hk : (kinds P e)[j]? with
    | none => rw [hk] at hx; cases hx
    | some k =>
      have hj : j < (kinds P e).length := (List.getElem?_eq_some_iff.1 hk).1
      rw [hk] at hx
      rw [List.getElem?_range hj] at hy
      simp only [Option.map_some, Option.some.injEq] at hx hy
      obtain ⟨cv, h1, h2⟩ := h j k hk
      rw [h1] at hy
      simp only [Option.getD_some] at hy
      subst hx hy
      exact crel_mkC h2
theorem readC_sound {T : TypeId} {cs : List C} {us : List Value} {off b o : Nat} {x : V} (h : readC P T cs off = some x) (hr : All2 (CRel P env S w) cs us) (hc : CellsAt w b o us) :
    ∃ v, (loadVar T ⟨b, o + off, none⟩).run P w = .ok v w ∧ VRel P env S w x v := by
  unfold readC at h
  cases ha : isAggB P T with
  | true =>
    simp only [ha, cond_true] at h
    cases hl : Nat.ble (off + sizeB P T) cs.length with
    | false => rw [hl] at h; cases h
    | true =>
      rw [hl] at h
      simp only [cond_true, Option.some.injEq] at h
      subst h
      have hlen := Nat.le_of_ble_eq_true hl
      have := hr.length
      refine ⟨_, run_loadVar_agg (vs := (us.drop off).take (sizeB P T)) ha (by simp; omega) ((hc.drop off).take _), _, rfl, ?_⟩
      simpa using (hr.drop off).take (sizeB P T)
  | false =>
    simp only [ha, cond_false] at h
    cases ht : tyB P T with
    | false => rw [ht] at h; cases h
    | true =>
      rw [ht] at h
      simp only [cond_true] at h
      cases hx : cs[off]? with
      | none => rw [hx] at h; cases h
      | some c =>
        rw [hx] at h
        simp only [Option.some.injEq] at h
        subst h
        obtain ⟨u, hu, hcr⟩ := hr.get hx
        exact ⟨u, run_loadVar_one ha ht (hc off u hu), hcr⟩
theorem sameKind_sel {c : Bool} {x y : C} {vx vy : Value} (h : sameKind x y = true) (hx : CRel P env S w x vx) (hy : CRel P env S w y vy) : CRel P env S w (selC c x y) (if c then vx else vy) := by
  cases x <;> cases y <;> simp only [sameKind] at h <;> try (cases h; done)
  case i.i k n k' n' =>
    have hk : k = k' := by simpa using h
    subst hk
    simp only [CRel] at hx hy
    subst hx hy
    cases c <;> simp [selC, CRel]
  all_goals
    simp only [CRel] at hx hy
    subst hx hy
    cases c <;> simp [selC, CRel]
theorem pickAt_sound {cs : List C} {us : List Value} (hr : All2 (CRel P env S w) cs us) {base esz ix : Nat} : ∀ {n j : Nat} {c : C}, pickAt cs base esz ix n j = some c → j ≤ ix → ix < j + n →
    ∃ u, us[base + ix * esz]? = some u ∧ CRel P env S w c u
  | 0, j, c, h, _, _ => by simp [pickAt] at h
  | 1, j, c, h, h1, h2 => by
    have : ix = j := by omega
    subst this
    simp only [pickAt] at h
    exact hr.get h
  | n + 2, j, c, h, h1, h2 => by
    simp only [pickAt] at h
    cases hx : cs[base + j * esz]? with
    | none => rw [hx] at h; cases h
    | some x =>
      cases hy : pickAt cs base esz ix (n + 1) (j + 1) with
      | none => rw [hx, hy] at h; cases h
      | some y =>
        rw [hx, hy] at h
        simp only at h
        cases hk : sameKind x y with
        | false => rw [hk] at h; cases h
        | true =>
          rw [hk] at h
          simp only [cond_true, Option.some.injEq] at h
          subst h
          by_cases he : ix = j
          · subst he
            obtain ⟨u, hu, hcr⟩ := hr.get hx
            refine ⟨u, hu, ?_⟩
            have : Nat.beq ix ix = true := by simp
            rw [this]
            -- the other value does not matter
            cases x <;> cases y <;> simp only [sameKind] at hk <;> try (cases hk; done)
            all_goals simpa [selC, CRel] using hcr
          · obtain ⟨u, hu, hcr⟩ := pickAt_sound hr hy (by omega) (by omega)
            refine ⟨u, hu, ?_⟩
            have : Nat.beq ix j = false := by rw [beq_eq']; simpa using he
            rw [this]
            cases x <;> cases y <;> simp only [sameKind] at hk <;> try (cases hk; done)
            all_goals first
              | (have hkk := eq_of_beq hk; subst hkk; simpa [selC, CRel] using hcr)
              | simpa [selC, CRel] using hcr
end
end Go.AM
