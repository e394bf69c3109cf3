/- The abstract machine: rows that a function makes. -/
import Derived.Test.YtefmjfcdgadggaaAm17
import Derived.IntWalk
set_option linter.all false
namespace Go.AM
open Go

section
variable {P : Program} {N n0 kb : Nat} {F : Nat → Prop} {B M0 : Stab} {w0 : World} {e0 env : Env} {st : St} {a : Act} {w : World}
def RowCells (P : Program) (w : World) (S : Stab) (e : TypeId) (xs : List D) (cur : Array Value) : Prop :=
  ∀ (i j : Nat) (k : CK), i < xs.length → (kinds P e)[j]? = some k → ∃ u, cur[i * sizeB P e + j]? = some u ∧ RepD P w S k (elD P e (xs.getD i (.i 0)) j) u
theorem elemOfSlice_some {T e : TypeId} (h : elemOfSlice P T = some e) : P.underlying T = some (.slice e) ∧ sizeB P e = (kinds P e).length ∧ tyB P e = true ∧ 0 < sizeB P e := by
  unfold elemOfSlice at h
  split at h
  · rename_i e' hu
    cases hb : Nat.beq (sizeB P e') (kinds P e').length && tyB P e' && !Nat.beq (sizeB P e') 0 with
    | false => rw [hb] at h; cases h
    | true =>
      rw [hb] at h
      simp only [cond_true, Option.some.injEq] at h
      subst h
      simp only [Bool.and_eq_true, Bool.not_eq_true'] at hb
      refine ⟨hu, Nat.eq_of_beq_eq_true hb.1.1, hb.1.2, ?_⟩
      have := hb.2
      rw [beq_eq'] at this
      simp at this
      omega
  · cases h
theorem zeroD_sound {e : TypeId} {z : D} (h : zeroD P e = some z) : ∃ v, (∀ w : World, (zeroValue e).run P w = .ok v w) ∧ (∃ i, P.info? e = some i ∧ i.zero = some v) ∧ v.cells.size = (kinds P e).length ∧
    ∀ (w : World) (S : Stab) (j : Nat) (k : CK), (kinds P e)[j]? = some k → ∃ u, v.cells[j]? = some u ∧ RepD P w S k (elD P e z j) u := by
  unfold zeroD at h
  split at h
  · rename_i x hx
    have hz : ∃ v, (∀ w : World, (zeroValue e).run P w = .ok v w) ∧ (∃ i, P.info? e = some i ∧ i.zero = some v) ∧ ∀ (w : World) (S : Stab), VRel P (fun _ => ⟨0, 0, none⟩) S w x v := by
      obtain ⟨v, h1, _⟩ := zeroVal_sound (env := fun _ => ⟨0, 0, none⟩) (S := fun _ _ => False) (w := default) hx
      have hi : ∃ i, P.info? e = some i ∧ i.zero = some v := by
        unfold zeroValue typeInfo at h1
        simp only [Sem.run_bind, run_program, Result.andThen_ok] at h1
        cases hi : P.info? e with
        | none => rw [hi] at h1; simp at h1
        | some i =>
          rw [hi] at h1
          simp only [Sem.run_pure, Result.andThen_ok] at h1
          cases hz : i.zero with
          | none => rw [hz] at h1; simp at h1
          | some v' => rw [hz] at h1; simp only [Sem.run_pure, Result.ok.injEq, and_true] at h1; exact ⟨i, rfl, by rw [hz, h1]⟩
      obtain ⟨i, hi1, hi2⟩ := hi
      refine ⟨v, fun w => by simp [zeroValue, typeInfo, hi1, hi2], ⟨i, hi1, hi2⟩, fun w S => ?_⟩
      obtain ⟨v2, h3, h4⟩ := zeroVal_sound (env := fun _ => ⟨0, 0, none⟩) (S := S) (w := w) hx
      have : v2 = v := by
        have h5 : (zeroValue e).run P w = .ok v w := by simp [zeroValue, typeInfo, hi1, hi2]
        rw [h5] at h3
        simp only [Result.ok.injEq, and_true] at h3
        exact h3.symm
      rw [← this]
      exact h4
    obtain ⟨v, h1, h2, h3⟩ := hz
    have hc := fun (w : World) (S : Stab) => asD_cells (mem := []) (fun key o hg => by cases hg) (fun key e xs hg => by cases hg) (h3 w S) h
    exact ⟨v, h1, h2, (hc default (fun _ _ => False)).1.symm, fun w S j k hk => (hc w S).2 j k hk⟩
  · cases h
theorem zero_row {e : TypeId} {z : D} {v : Value} (hs : sizeB P e = (kinds P e).length) (hv : v.cells.size = (kinds P e).length) {S : Stab} (hc : ∀ (j : Nat) (k : CK), (kinds P e)[j]? = some k → ∃ u, v.cells[j]? = some u ∧ RepD P w S k (elD P e z j) u) (n m : Nat) (hnm : n ≤ m) :
    RowCells P w S e (List.replicate n z) ((Array.range (m * sizeB P e)).map (v.cells[· % v.cells.size]!)) := by
  intro i j k hi hk
  rw [List.length_replicate] at hi
  have hj : j < (kinds P e).length := (List.getElem?_eq_some_iff.1 hk).1
  obtain ⟨u, hu, hr⟩ := hc j k hk
  refine ⟨u, ?_, ?_⟩
  · have hlt : i * sizeB P e + j < m * sizeB P e := mul_lt (by omega) (by omega)
    rw [Array.getElem?_map, Array.getElem?_range, if_pos hlt]
    simp only [Option.map_some]
    have hmod : (i * sizeB P e + j) % v.cells.size = j := by
      rw [hv, hs, Nat.mul_comm, Nat.mul_add_mod, Nat.mod_eq_of_lt hj]
    rw [hmod]
    have hjs : j < v.cells.size := by omega
    rw [getElem!_pos v.cells j hjs]
    rw [Array.getElem?_eq_getElem hjs] at hu
    exact hu
  · rw [List.getD_eq_getElem?_getD, List.getElem?_replicate, if_pos hi]
    exact hr
theorem coeV_sound {S : Stab} {e : TypeId} {x : V} {v : Value} (h : VRel P env S w x v) : VRel P env S w (coeV P e x) v := by
  cases x with
  | c c => simp only [coeV]; split <;> first | exact coeC_sound h | exact h
  | g cs => obtain ⟨vs, h1, h2⟩ := h; exact ⟨vs, h1, coeCs_sound h2⟩
  | _ => exact h
theorem partsD_sound {S : Stab} {mem : AL Obj} (hob : ∀ key o, get mem key = some o → ObjRel P env S w (env key) o) (hst : RowsStable P env S mem) {e : TypeId} (hs : sizeB P e = (kinds P e).length) : ∀ {parts : List (Nat × V)} {vps : List (Nat × Value)} {ds out : List D} {cur : Array Value},
    All2 (fun x y => x.1 = y.1 ∧ VRel P env S w x.2 y.2) parts vps → cur.size = ds.length * sizeB P e → RowCells P w S e ds cur → partsD P mem e ds parts = some out →
    ∃ cur', Instr.fill (fun i => some (i * sizeB P e, sizeB P e)) cur vps = some cur' ∧ cur'.size = out.length * sizeB P e ∧ out.length = ds.length ∧ RowCells P w S e out cur'
  | [], vps, ds, out, cur, hps, hsz, hc, h => by
    cases vps with
    | nil => simp only [partsD, Option.some.injEq] at h; subst h; exact ⟨cur, rfl, hsz, rfl, hc⟩
    | cons => exact hps.elim
  | (i, x) :: parts, vps, ds, out, cur, hps, hsz, hc, h => by
    cases vps with
    | nil => exact hps.elim
    | cons y vps =>
      obtain ⟨i', v⟩ := y
      obtain ⟨⟨hi, hv⟩, hps⟩ := hps
      simp only at hi hv
      subst hi
      simp only [partsD] at h
      split at h
      · rename_i d hd
        cases hl : Nat.blt i ds.length with
        | false => rw [hl] at h; cases h
        | true =>
          rw [hl] at h
          simp only [cond_true] at h
          have hlt : i < ds.length := Nat.le_of_ble_eq_true hl
          obtain ⟨q1, q2⟩ := asD_cells hob hst (coeV_sound (e := e) hv) hd
          have hfit : i * sizeB P e + v.cells.size ≤ cur.size := by
            rw [hsz, ← q1, ← hs]
            have : (i + 1) * sizeB P e ≤ ds.length * sizeB P e := Nat.mul_le_mul_right _ hlt
            rw [Nat.add_mul, Nat.one_mul] at this
            exact this
          have hf : (v.cells.zipIdx.foldl (fun cs (c, j) => cs.setIfInBounds (i * sizeB P e + j) c) cur).toList = cur.toList.take (i * sizeB P e) ++ v.cells.toList ++ cur.toList.drop (i * sizeB P e + v.cells.toList.length) := by
            have := foldl_set (i * sizeB P e) v.cells.toList 0 cur (by simpa using hfit)
            rw [← Array.foldl_toList, Array.toList_zipIdx]
            simpa using this
          have hget : ∀ j, (v.cells.zipIdx.foldl (fun cs (c, j) => cs.setIfInBounds (i * sizeB P e + j) c) cur)[j]? = if i * sizeB P e ≤ j ∧ j < i * sizeB P e + v.cells.size then v.cells[j - i * sizeB P e]? else cur[j]? := by
            intro j
            rw [← Array.getElem?_toList, hf, seg_get _ _ _ _ (by simpa using hfit)]
            simp
          have hsz2 : (v.cells.zipIdx.foldl (fun cs (c, j) => cs.setIfInBounds (i * sizeB P e + j) c) cur).size = (ds.set i d).length * sizeB P e := by
            rw [← Array.length_toList, hf, seg_length _ _ _ (by simpa using hfit)]
            simpa using hsz
          have hrow : RowCells P w S e (ds.set i d) (v.cells.zipIdx.foldl (fun cs (c, j) => cs.setIfInBounds (i * sizeB P e + j) c) cur) := by
            intro i2 j k hi2 hk
            rw [List.length_set] at hi2
            have hj : j < (kinds P e).length := (List.getElem?_eq_some_iff.1 hk).1
            by_cases hii : i2 = i
            · subst hii
              obtain ⟨u, hu, hr⟩ := q2 j k hk
              refine ⟨u, ?_, ?_⟩
              · rw [hget, if_pos (by omega), ← hu]; congr 1; omega
              · rw [List.getD_eq_getElem?_getD, List.getElem?_set_self hlt]; exact hr
            · obtain ⟨u, hu, hr⟩ := hc i2 j k hi2 hk
              refine ⟨u, ?_, ?_⟩
              · rw [hget, if_neg ?_]
                · exact hu
                · intro hcc
                  rcases Nat.lt_or_gt_of_ne hii with hlt2 | hgt
                  · have := mul_lt (s := sizeB P e) (j := j) hlt2 (by omega); omega
                  · have h7 : (i + 1) * sizeB P e ≤ i2 * sizeB P e := Nat.mul_le_mul_right _ hgt
                    rw [Nat.add_mul, Nat.one_mul] at h7
                    omega
              · rw [List.getD_eq_getElem?_getD, List.getElem?_set_ne (Ne.symm hii), ← List.getD_eq_getElem?_getD]; exact hr
          obtain ⟨cur', r1, r2, r3, r4⟩ := partsD_sound hob hst hs hps hsz2 hrow h
          refine ⟨cur', ?_, r2, by simpa using r3, r4⟩
          simp only [Instr.fill]
          rw [if_neg (by
            intro hh
            rw [Bool.or_eq_true, decide_eq_true_eq, decide_eq_true_eq] at hh
            rcases hh with hh | hh
            · exact hh (by omega)
            · omega)]
          exact r1
      · cases h
theorem RowCells.mono {S S' : Stab} {w' : World} (h : Keeps w S w' S') {e : TypeId} {xs : List D} {cur : Array Value} (hr : RowCells P w S e xs cur) : RowCells P w' S' e xs cur :=
  fun i j k hi hk => let ⟨u, a, b⟩ := hr i j k hi hk; ⟨u, a, b.mono h⟩
/-- A row in a new block. -/
theorem rel_newRow (h : Rel P N n0 B M0 w0 F e0 env st a w) {mem0 : AL Obj} (hsub : ∀ k ob, get mem0 k = some ob → get st.mem k = some ob) (key : Nat) (hkey : ¬ F key) {e : TypeId} {ex : Bool} {xs : List D} {cap : Nat} {cur : Array Value} {w' : World} (hch : Chg (fun _ _ => False) w w') (hheap : w'.heap = w.heap.push (.cells cur e))
    (hs : sizeB P e = (kinds P e).length) (hle : xs.length ≤ cap) (hcap : cap ≤ maxLen) (hsz : cur.size = cap * sizeB P e) (hr : RowCells P w (Sof P B M0 n0 env st.mem w) e xs cur) :
    Rel P N n0 B M0 w0 F e0 (upd env key ⟨w.heap.size, 0, some (xs.length, cap)⟩) (fresh key (.row e ex false xs) { st with mem := mem0 }) a w' :=
  Rel.newBlock h hsub key hkey _ _ (.cells cur e) hch hheap fun S' hk => by
    refine ⟨hs, .inr ⟨rfl, rfl, cap, cur, rfl, ?_, hle, hcap, hsz, hr.mono hk⟩⟩
    rw [hheap, Array.getElem?_push, if_pos rfl]
theorem buildSlice_sound {R : Type} {d n : Nat} {T el : TypeId} {parts : Array (Nat × Operand)} {z : D} {ds : List D} {k : St → Option R} {r : R} {o : Oper} {Q : Exit → Act → World → Prop} (h : Rel P N n0 B M0 w0 F e0 env st a w) (hd : d < N) (hF : ¬ F (kb + d)) (ho : o.op = .buildSlice T n parts) (hdst : o.dst = some d)
    (hel : elemOfSlice P T = some el) (hz : zeroD P el = some z) (hds : partsD P st.mem el (List.replicate n z) (parts.toList.map fun (i, x) => (i, evu st x)) = some ds) (hn : n * sizeB P el ≤ 16777216)
    (hk : k ((fresh (kb + d) (.row el true false ds) st).put (some d) (.c (.o (kb + d)))) = some r) : o.wp P a w (After P N n0 B M0 w0 F e0 k r) Q := by
  obtain ⟨hu, hs, hty, hpos⟩ := elemOfSlice_some hel
  obtain ⟨v, hrun, _, hvs, hvc⟩ := zeroD_sound hz
  have hzr := zero_row (w := w) hs hvs (hvc w (Sof P B M0 n0 env st.mem w)) n n (Nat.le_refl _)
  obtain ⟨cur, h1, h2, h3, h4⟩ := partsD_sound (vps := (parts.map fun (i, x) => (i, a.eval x)).toList) h.ob h.rows hs (by rw [Array.toList_map]; exact partsE h.evu parts.toList) (by simp) hzr hds
  rw [List.length_replicate] at h3
  refine wp_value (v := .slice (some ⟨w.heap.size, 0, none⟩) n n) (w' := push w (.cells cur el)) ?_ ?_
  · simp only [execOp, ho, Sem.run_bind]
    have hrow : (newRow el cur).run P w = .ok ⟨w.heap.size, 0, none⟩ (push w (.cells cur el)) := by simp [Go.newRow, push]
    simp only [Instr.buildSlice, Sem.run_bind, run_underlying hu, Result.andThen_ok, run_sizeOf hty, if_neg (show ¬ n * sizeB P el > 2 ^ 24 by omega), Sem.run_pure]
    by_cases h0 : n * sizeB P el = 0
    · rw [if_pos h0]
      rw [h0] at h1 ⊢
      rw [show Array.range 0 = #[] from rfl] at h1 ⊢
      rw [Array.map_empty] at h1
      simp only [Sem.run_bind, Sem.run_pure, Result.andThen_ok, Array.map_empty, h1, hrow]
    · rw [if_neg h0]
      simp only [Sem.run_bind, hrun w, Sem.run_pure, Result.andThen_ok, h1, hrow]
  · have hrel := rel_newRow h (mem0 := st.mem) (fun _ _ hg => hg) (kb + d) hF (ex := true) (xs := ds) (cap := n) (cur := cur) (w' := push w (.cells cur el)) (chg_push _ w _) rfl hs (by omega) (by
      unfold maxLen
      have : n * 1 ≤ n * sizeB P el := Nat.mul_le_mul_left _ hpos
      omega) (by rw [h2, h3]) h4
    rw [hdst]
    refine ⟨_, _, hrel.put (fun _ hdd => by cases hdd; exact hd) ?_, hk⟩
    simp [VRelA, VRel, CRel, upd, Slot.hdr, h3]
end
end Go.AM
