/- The abstract machine: building, taking apart, slicing, looking up. -/
import Derived.Test.YtefmjfcdgadggaaAm7
set_option linter.all false
namespace Go.AM
open Go

theorem foldl_set (off : Nat) : ∀ (l : List Value) (k : Nat) (cs : Array Value), off + k + l.length ≤ cs.size →
    ((l.zipIdx k).foldl (fun cs (x : Value × Nat) => cs.setIfInBounds (off + x.2) x.1) cs).toList = cs.toList.take (off + k) ++ l ++ cs.toList.drop (off + k + l.length)
  | [], k, cs, _ => by simp
  | v :: l, k, cs, h => by
    simp only [List.length_cons] at h
    rw [List.zipIdx_cons, List.foldl_cons, foldl_set off l (k + 1) _ (by simp; omega)]
    have hlt : off + k < cs.toList.length := by simp; omega
    have e1 : (cs.setIfInBounds (off + k) v).toList = cs.toList.set (off + k) v := by simp
    simp only [e1]
    have e2 : (cs.toList.set (off + k) v).take (off + (k + 1)) = cs.toList.take (off + k) ++ [v] := by
      have hl : (cs.toList.take (off + k)).length = off + k := by rw [List.length_take]; omega
      rw [List.set_eq_take_append_cons_drop, if_pos hlt, show off + (k + 1) = (cs.toList.take (off + k)).length + 1 by omega, List.take_length_add_append]
      rfl
    have e3 : (cs.toList.set (off + k) v).drop (off + (k + 1) + l.length) = cs.toList.drop (off + k + (l.length + 1)) := by
      rw [List.drop_set_of_lt (by omega)]
      congr 1; omega
    rw [e2, e3]
    simp

section
variable {P : Program} {env : Env} {S : Stab} {w : World} {mem : AL Obj}
theorem splice_rel {cs new : List C} {us vs : List Value} {off : Nat} (h1 : All2 (CRel P env S w) cs us) (h2 : All2 (CRel P env S w) new vs) :
    All2 (CRel P env S w) (splice cs off new) (us.take off ++ vs ++ us.drop (off + vs.length)) := by
  unfold splice
  rw [← h2.length]
  exact ((h1.take off).append h2).append (h1.drop _)
theorem fillC_sound {places : List (Nat × TypeId)} {pl : Nat → Option (Nat × Nat)} (hp : ∀ i off T, places[i]? = some (off, T) → pl i = some (off, sizeB P T)) : ∀ {parts : List (Nat × V)} {vps : List (Nat × Value)} {cs out : List C} {us : Array Value},
    All2 (fun x y => x.1 = y.1 ∧ VRel P env S w x.2 y.2) parts vps → All2 (CRel P env S w) cs us.toList → fillC P places cs parts = some out →
    ∃ us', Instr.fill pl us vps = some us' ∧ All2 (CRel P env S w) out us'.toList
  | [], vps, cs, out, us, hps, hc, h => by
    cases vps with
    | nil => simp only [fillC, Option.some.injEq] at h; subst h; exact ⟨us, rfl, hc⟩
    | cons => exact hps.elim
  | (i, x) :: parts, vps, cs, out, us, hps, hc, h => by
    cases vps with
    | nil => exact hps.elim
    | cons y vps =>
      obtain ⟨i', v⟩ := y
      obtain ⟨⟨hi, hv⟩, hps⟩ := hps
      simp only at hi hv
      subst hi
      simp only [fillC] at h
      split at h
      · cases h
      · rename_i off T hpl
        split at h
        · cases h
        · rename_i new hnew
          obtain ⟨h1, h2, h3, h4⟩ := storeCellsV_sound hv hnew
          cases hl : Nat.ble (off + new.length) cs.length with
          | false => rw [hl] at h; cases h
          | true =>
            rw [hl] at h
            simp only [cond_true] at h
            have hle := Nat.le_of_ble_eq_true hl
            have hcl := hc.length
            have hnl := h1.length
            simp only [Array.length_toList] at hcl hnl
            have hf : (v.cells.zipIdx.foldl (fun cs (c, j) => cs.setIfInBounds (off + j) c) us).toList = us.toList.take off ++ v.cells.toList ++ us.toList.drop (off + v.cells.toList.length) := by
              have := foldl_set off v.cells.toList 0 us (by simp; omega)
              rw [← Array.foldl_toList, Array.toList_zipIdx]
              simpa using this
            have hr : All2 (CRel P env S w) (splice cs off new) (v.cells.zipIdx.foldl (fun cs (c, j) => cs.setIfInBounds (off + j) c) us).toList := by
              rw [hf]; exact splice_rel hc h1
            obtain ⟨us', h5, h6⟩ := fillC_sound hp hps hr h
            refine ⟨us', ?_, h6⟩
            simp only [Instr.fill, hp i off T hpl]
            rw [if_neg (by
              intro hh
              rw [Bool.or_eq_true, decide_eq_true_eq, decide_eq_true_eq] at hh
              rcases hh with hh | hh
              · exact hh h2
              · omega)]
            exact h5
theorem ofCs_rel (cs : List Value) : All2 (CRel P env S w) (cs.map ofC) cs := .of_get (by simp) fun j x y hx hy => by
  rw [List.getElem?_map, hy] at hx
  simp only [Option.map_some, Option.some.injEq] at hx
  subst hx
  exact ofC_rel y
theorem cells_one {v : Value} (h : ∀ cs, v ≠ .agg cs) : v.cells = #[v] := by
  cases v <;> first | rfl | exact absurd rfl (h _)
theorem zeroV_sound {T : TypeId} {z : List C} (h : zeroV P T = some z) : ∃ i v, P.info? T = some i ∧ i.zero = some v ∧ All2 (CRel P env S w) z v.cells.toList ∧ (zeroValue T).run P w = .ok v w ∧
    ((isAggB P T = true ∧ ∃ cs, v = .agg cs) ∨ (isAggB P T = false ∧ v.cells = #[v])) := by
  unfold zeroV at h
  have fin : ∀ v, (P.info? T).bind (·.zero) = some v → ∃ i, P.info? T = some i ∧ i.zero = some v ∧ (zeroValue T).run P w = .ok v w := by
    intro v hz
    cases hi : P.info? T with
    | none => rw [hi] at hz; cases hz
    | some i => rw [hi] at hz; exact ⟨i, rfl, hz, by simp [zeroValue, typeInfo, hi, show i.zero = some v from hz]⟩
  split at h
  · rename_i cs hz
    cases ha : isAggB P T with
    | false => rw [ha] at h; cases h
    | true =>
      rw [ha] at h
      simp only [cond_true, Option.some.injEq] at h
      subst h
      obtain ⟨i, h1, h2, h3⟩ := fin _ hz
      exact ⟨i, _, h1, h2, coeCs_sound (ofCs_rel cs.toList), h3, .inl ⟨rfl, cs, rfl⟩⟩
  · rename_i v hne hz
    cases ha : isAggB P T with
    | true => rw [ha] at h; cases h
    | false =>
      rw [ha] at h
      simp only [cond_false, Option.some.injEq] at h
      subst h
      obtain ⟨i, h1, h2, h3⟩ := fin _ hz
      have hc := cells_one (v := v) fun cs hcs => hne cs (hcs ▸ rfl)
      exact ⟨i, v, h1, h2, coeCs_sound (by rw [hc]; exact ⟨ofC_rel v, trivial⟩), h3, .inr ⟨rfl, hc⟩⟩
  · cases h
theorem zeroVal_sound {T : TypeId} {x : V} (h : zeroVal P T = some x) : ∃ v, (zeroValue T).run P w = .ok v w ∧ VRel P env S w x v := by
  unfold zeroVal at h
  split at h
  · rename_i z hz
    obtain ⟨i, v, _, _, h1, h2, h3⟩ := zeroV_sound (env := env) (S := S) (w := w) hz
    refine ⟨v, h2, ?_⟩
    rcases h3 with ⟨ha, cs, rfl⟩ | ⟨ha, hc⟩
    · rw [ha] at h
      simp only [cond_true, Option.some.injEq] at h
      subst h
      exact ⟨cs, rfl, h1⟩
    · rw [ha] at h
      simp only [cond_false] at h
      split at h
      · simp only [Option.some.injEq] at h
        subst h
        rw [hc] at h1
        exact h1.1
      · cases h
  · cases h
theorem mapM_places (fs : List Field) (h : (fs.all fun f => (P.info? f.type).isSome) = true) : fs.mapM (fun f => (P.info? f.type).map fun i => (f.offset, i.size)) = some (fs.map fun f => (f.offset, sizeB P f.type)) := by
  induction fs with
  | nil => rfl
  | cons f fs ih =>
    simp only [List.all_cons, Bool.and_eq_true] at h
    cases hi : P.info? f.type with
    | none => rw [hi] at h; cases h.1
    | some i => simp [List.mapM_cons, hi, ih h.2, sizeB]
theorem buildV_sound {T : TypeId} {parts : List (Nat × V)} {vps : Array (Nat × Value)} {x : V} (hp : All2 (fun x y => x.1 = y.1 ∧ VRel P env S w x.2 y.2) parts vps.toList) (h : buildV P T parts = some x) :
    ∃ v, (Instr.build T vps).run P w = .ok v w ∧ VRel P env S w x v := by
  unfold buildV at h
  split at h
  · rename_i z fs hz hu
    obtain ⟨i, v, hi, hzv, hzr, _, _⟩ := zeroV_sound (env := env) (S := S) (w := w) hz
    cases hall : fs.toList.all fun f => (P.info? f.type).isSome with
    | false => rw [hall] at h; cases h
    | true =>
      rw [hall] at h
      simp only [Bool.not_true, cond_false] at h
      split at h
      · rename_i cs hf
        simp only [Option.some.injEq] at h
        subst h
        obtain ⟨us', h1, h2⟩ := fillC_sound (pl := fun x => (fs.toList.map fun f => (f.offset, sizeB P f.type)).toArray[x]?) (us := v.cells) (fun i off T hpl => by
          rw [List.getElem?_map] at hpl
          cases hfi : fs.toList[i]? with
          | none => rw [hfi] at hpl; cases hpl
          | some f =>
            rw [hfi] at hpl
            simp only [Option.map_some, Option.some.injEq, Prod.mk.injEq] at hpl
            obtain ⟨rfl, rfl⟩ := hpl
            simp only [List.getElem?_toArray, List.getElem?_map, hfi, Option.map_some]) hp hzr hf
        refine ⟨.agg us', run_build w T vps us' ?_, us', rfl, h2⟩
        unfold Program.built
        simp only [hi, hu, hzv, mapM_places fs.toList hall]
        exact h1
      · cases h
  · rename_i z len e hz hu
    obtain ⟨i, v, hi, hzv, hzr, _, _⟩ := zeroV_sound (env := env) (S := S) (w := w) hz
    cases hie : P.info? e with
    | none => rw [hie] at h; cases h
    | some ie =>
      rw [hie] at h
      simp only [Option.isSome_some, Bool.not_true, cond_false] at h
      split at h
      · rename_i cs hf
        simp only [Option.some.injEq] at h
        subst h
        have hse : sizeB P e = ie.size := by simp [sizeB, hie]
        obtain ⟨us', h1, h2⟩ := fillC_sound (pl := fun i => some (i * ie.size, ie.size)) (us := v.cells) (fun i off T hpl => by
          rw [List.getElem?_map] at hpl
          by_cases hil : i < len
          · rw [List.getElem?_range hil] at hpl
            simp only [Option.map_some, Option.some.injEq, Prod.mk.injEq] at hpl
            obtain ⟨rfl, rfl⟩ := hpl
            rw [hse]
          · rw [List.getElem?_eq_none (by simpa using hil)] at hpl; cases hpl) hp hzr hf
        refine ⟨.agg us', run_build w T vps us' ?_, us', rfl, h2⟩
        unfold Program.built
        simp only [hi, hu, hzv, hie]
        exact h1
      · cases h
  · cases h
theorem part_one {T : TypeId} {xs : List C} {us : Array Value} {off : Nat} {c : C} (hr : All2 (CRel P env S w) xs us.toList) (ht : tyB P T = true) (ha : isAggB P T = false) (hc : xs[off]? = some c) :
    ∃ v, (part T us off).run P w = .ok v w ∧ CRel P env S w c v := by
  obtain ⟨u, hu, hcr⟩ := hr.get hc
  have hu' : us[off]? = some u := by simpa using hu
  refine ⟨u, ?_, hcr⟩
  unfold part
  simp only [Sem.run_bind, run_isAgg ht, Result.andThen_ok, ha, Bool.false_eq_true, if_false, hu', Sem.run_pure]
theorem fieldV_sound {T : TypeId} {x y : V} {v : Value} {f : Nat} (hx : VRel P env S w x v) (h : fieldV P T x f = some y) : ∃ u, (Instr.field T v f).run P w = .ok u w ∧ VRel P env S w y u := by
  unfold fieldV at h
  split at h
  · rename_i fs cs hu
    obtain ⟨us, rfl, hr⟩ := hx
    split at h
    · rename_i fd hf
      simp only [Instr.field, Sem.run_bind, run_underlying hu, Result.andThen_ok, hf, asAgg, Sem.run_pure]
      cases ha : isAggB P fd.type with
      | true =>
        rw [ha] at h
        simp only [cond_true, Option.some.injEq] at h
        subst h
        obtain ⟨u, h1, h2⟩ := part_sound (off := fd.offset) hr (tyB_agg ha) fun h => by rw [ha] at h; cases h
        refine ⟨u, h1, ?_⟩
        rcases h2 with ⟨_, h2⟩ | ⟨h2, _⟩
        · exact h2
        · rw [ha] at h2; cases h2
      | false =>
        rw [ha] at h
        simp only [cond_false] at h
        cases ht : tyB P fd.type with
        | false => rw [ht] at h; cases h
        | true =>
          rw [ht] at h
          simp only [cond_true] at h
          split at h
          · rename_i c hc
            simp only [Option.some.injEq] at h
            subst h
            exact part_one hr ht ha hc
          · cases h
    · cases h
  · cases h
end
end Go.AM
