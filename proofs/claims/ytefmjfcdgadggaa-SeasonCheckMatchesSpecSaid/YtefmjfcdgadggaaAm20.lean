/- The abstract machine: the other operations that change the memory. -/
import Derived.Test.YtefmjfcdgadggaaAm19
import Derived.Laws.MakeOwn
set_option linter.all false
namespace Go.AM
open Go

section
variable {P : Program} {N n0 kb : Nat} {F : Nat → Prop} {B M0 : Stab} {w0 : World} {e0 env : Env} {st : St} {a : Act} {w : World}
theorem makeSlice_sound {R : Type} {d : Nat} {T el : TypeId} {l c : Operand} {n m : Int} {z : D} {k : St → Option R} {r : R} {o : Oper} {Q : Exit → Act → World → Prop} (h : Rel P N n0 B M0 w0 F e0 env st a w) (hd : d < N) (hF : ¬ F (kb + d)) (ho : o.op = .makeSlice T l c) (hdst : o.dst = some d)
    (hel : elemOfSlice P T = some el) (hl : evu st l = .c (.i .i64 n)) (hc : evu st c = .c (.i .i64 m)) (hz : zeroD P el = some z) (h0 : 0 ≤ n) (h1 : n ≤ m) (h2 : roomB P el m.toNat = true)
    (hk : k ((fresh (kb + d) (.row el true false (List.replicate n.toNat z)) st).put (some d) (.c (.o (kb + d)))) = some r) : o.wp P a w (After P N n0 B M0 w0 F e0 k r) Q := by
  obtain ⟨hu, hs, hty, hpos⟩ := elemOfSlice_some hel
  obtain ⟨v, hrun, ⟨i, hi, hiz⟩, hvs, hvc⟩ := zeroD_sound hz
  have hlv : a.eval l = .int .i64 n := by have := h.evu l; rw [hl] at this; exact this
  have hcv : a.eval c = .int .i64 m := by have := h.evu c; rw [hc] at this; exact this
  have hsz : i.size = sizeB P el := by simp [sizeB, hi]
  have hby : i.bytes = bytesB P el := by simp [bytesB, hi]
  unfold roomB at h2
  simp only [Bool.and_eq_true, decide_eq_true_eq] at h2
  obtain ⟨h3, h4⟩ := h2
  unfold strMax at h4
  unfold room at h3
  have em : (m.toNat : Int) = m := Int.toNat_of_nonneg (by omega)
  have hbm : (i.bytes : Int) * m ≤ 140737488355328 := by
    have h5 : ((m.toNat * bytesB P el : Nat) : Int) ≤ ((140737488355328 : Nat) : Int) := Int.ofNat_le.2 h3
    rw [Int.natCast_mul, em] at h5
    rw [hby, Int.mul_comm]
    exact h5
  have hmk := run_make (P := P) w T el i v hu hi hiz .i64 .i64 n m h0 h1 (by omega) (by omega)
  rw [hsz] at hmk
  refine wp_value (v := .slice (some ⟨w.heap.size, 0, none⟩) n.toNat m.toNat) (w' := push w (.cells ((Array.range (m.toNat * sizeB P el)).map (v.cells[· % v.cells.size]!)) el)) ?_ ?_
  · have hex : execOp a.eval o = (do pure (.value (← Instr.makeSlice T (a.eval l) (a.eval c))) : Sem Next) := by unfold execOp; rw [ho]
    rw [hex, hlv, hcv, Sem.run_bind, hmk]
    rfl
  · have hr := zero_row (w := w) hs hvs (hvc w (Sof P B M0 n0 env st.mem w)) n.toNat m.toNat (by omega)
    have hrel := rel_newRow h (mem0 := st.mem) (fun _ _ hg => hg) (kb + d) hF (ex := true) (xs := List.replicate n.toNat z) (cap := m.toNat) (w' := push w (.cells ((Array.range (m.toNat * sizeB P el)).map (v.cells[· % v.cells.size]!)) el)) (chg_push _ w _) rfl hs (by simp; omega) (by unfold maxLen; omega) (by simp) hr
    rw [hdst]
    refine ⟨_, _, hrel.put (fun _ hdd => by cases hdd; exact hd) ?_, hk⟩
    simp [VRelA, VRel, CRel, upd, Slot.hdr]
theorem makeMap_sound {R : Type} {d : Nat} {T kt vt : TypeId} {k : St → Option R} {r : R} {o : Oper} {Q : Exit → Act → World → Prop} (h : Rel P N n0 B M0 w0 F e0 env st a w) (hd : d < N) (hF : ¬ F (kb + d)) (ho : o.op = .makeMap T none) (hdst : o.dst = some d)
    (hk : k ((fresh (kb + d) (.map kt vt []) st).put (some d) (.c (.m (kb + d)))) = some r) : o.wp P a w (After P N n0 B M0 w0 F e0 k r) Q := by
  refine wp_value (v := .map (some w.heap.size)) (w' := push w (.map #[] 0)) ?_ ?_
  · simp [execOp, ho, Instr.makeMap, push]
  · have hrel := Rel.newBlock h (mem0 := st.mem) (fun _ _ hg => hg) (kb + d) hF (.map kt vt []) none (.map #[] 0) (w' := push w (.map #[] 0)) (chg_push _ w _) rfl fun S' _ => ⟨#[], 0, push_new, trivial⟩
    rw [hdst]
    refine ⟨_, _, hrel.put (fun _ hdd => by cases hdd; exact hd) ?_, hk⟩
    simp [VRelA, VRel, CRel, upd]
theorem run_setObj {blk : Nat} {ob ob' : Go.Obj} (hg : w.heap[blk]? = some ob) (hne : ∀ c T f, ob ≠ .cells c T f) : (setObj blk ob').run P w = .ok () { w with heap := w.heap.setIfInBounds blk ob' } := by
  unfold setObj
  cases ob <;> first | exact absurd rfl (hne _ _ _) | simp only [Sem.run, hg]
theorem keyThatStays_run (old new : Value) (w : World) : ∃ key w', (Instr.keyThatStays old new).run P w = .ok key w' ∧ (key = new ∨ key = old) ∧ w'.heap = w.heap ∧ w'.os = w.os ∧ w'.tape = w.tape ∧ w'.output = w.output := by
  unfold Instr.keyThatStays
  cases Instr.sameBits 10000 old new with
  | true => exact ⟨new, w, by simp, .inl rfl, rfl, rfl, rfl, rfl⟩
  | false =>
    simp only [Bool.false_eq_true, if_false, Sem.run_bind, run_choose]
    simp only [Question.forced, Bool.false_eq_true, if_false, Result.andThen_ok, Sem.run_pure]
    refine ⟨_, { w with drawn := w.drawn + 1 }, rfl, ?_, rfl, rfl, rfl, rfl⟩
    split
    · exact .inl rfl
    · exact .inr rfl
theorem chg_setObj {blk : Nat} {ob ob' : Go.Obj} {w' : World} (hg : w.heap[blk]? = some ob) (hne : ∀ c T f, ob ≠ .cells c T f) (hh : w'.heap = w.heap.setIfInBounds blk ob') (h1 : w'.os = w.os) (h2 : w'.tape = w.tape) (h3 : w'.output = w.output) : Chg (fun b _ => b = blk) w w' := by
  refine ⟨h1, h2, h3, by rw [hh]; simp, ?_, ?_⟩
  · intro b cur T fr hb
    have hbb : b ≠ blk := by rintro rfl; rw [hg] at hb; simp only [Option.some.injEq] at hb; exact hne _ _ _ hb
    refine ⟨cur, ?_, rfl, fun _ _ => rfl⟩
    rw [hh, Array.getElem?_setIfInBounds, if_neg (Ne.symm hbb)]
    exact hb
  · intro b o hb hno
    have hbb : blk ≠ b := fun e => hno 0 e.symm
    rw [hh, Array.getElem?_setIfInBounds, if_neg hbb]
    exact hb
theorem mapUpdate_sound {R : Type} {T kt vt vt' : TypeId} {mo ko xo : Operand} {mk : Nat} {es es' : List (D × D)} {kd vd : D} {b : Bool} {k : St → Option R} {r : R} {o : Oper} {Q : Exit → Act → World → Prop} (h : Rel P N n0 B M0 w0 F e0 env st a w) (hd : ∀ d, o.dst = some d → d < N)
    (hexec : execOp a.eval o = (do Instr.mapUpdate T (a.eval mo) (a.eval ko) (a.eval xo); pure .skip))
    (hm : evu st mo = .c (.m mk)) (hu : P.underlying T = some (.map kt vt')) (hg : get st.mem mk = some (.map kt vt es)) (hkd : asD P st.mem kt (evu st ko) = some kd) (hvd : asD P st.mem vt (evu st xo) = some vd) (hself : eqD P kt kd kd = some b) (hput : putD P kt kd vd es = some es')
    (hk : k (St.put { st with mem := set st.mem mk (.map kt vt es') } o.dst (.c .u)) = some r) : o.wp P a w (After P N n0 B M0 w0 F e0 k r) Q := by
  have hmv : a.eval mo = .map (some (env mk).blk) := by have := h.evu mo; rw [hm] at this; exact this
  obtain ⟨ents, clock, hh, hents⟩ := h.ob _ _ hg
  obtain ⟨p, hp, hpl, hpr⟩ := putD_pos hput
  have hkv := valueD_of_asD h.ob h.rows (h.evu ko) hkd
  have hvv := valueD_of_asD h.ob h.rows (h.evu xo) hvd
  have hf := run_findKey hkv ⟨b, hself⟩ hents hp
  have hck := checkKey_sound (w := w) false 12 kt _ _ _ (a.eval ko) hself (ofT_valueD hkv hself) 10000 (by decide)
  have hget : (getObj (env mk).blk).run P w = .ok (.map ents clock) w := by unfold getObj; simp only [Sem.run, hh]
  have hnc : ∀ c T f, (Go.Obj.map ents clock) ≠ .cells c T f := fun _ _ _ e => by cases e
  have fin : ∀ (ents' : Array MapEntry) (clock' : Nat) (w' : World), (Instr.mapUpdate T (a.eval mo) (a.eval ko) (a.eval xo)).run P w = .ok () w' → w'.heap = w.heap.setIfInBounds (env mk).blk (.map ents' clock') → w'.os = w.os → w'.tape = w.tape → w'.output = w.output →
      (∀ S', Keeps w (Sof P B M0 n0 env st.mem w) w' S' → All2 (EntRel P env S' w' kt vt) es' ents'.toList) → o.wp P a w (After P N n0 B M0 w0 F e0 k r) Q := by
    intro ents' clock' w' hrun h1 h2 h3 h4 h5
    refine wp_skip' (w' := w') ?_ ⟨env, _, Rel.put_u (Rel.upd h hg (o' := .map kt vt es') (fun b _ => b = (env mk).blk) (chg_setObj hh hnc h1 h2 h3 h4) (fun _ _ e => e) (fun _ _ e => e) (fun hr => hr) ?_ trivial ?_ ?_) hd undef, hk⟩
    · rw [hexec]
      simp only [Sem.run_bind, hrun, Result.andThen_ok, Sem.run_pure]
    · intro b hb
      rw [h1, Array.getElem?_setIfInBounds, if_neg (Ne.symm hb)]
    · intro S' hk'
      refine ⟨ents', clock', ?_, h5 S' hk'⟩
      rw [h1, Array.getElem?_setIfInBounds, if_pos rfl, if_pos (Array.getElem?_eq_some_iff.1 hh).1]
    · intro e ex xs he; cases he
  have keepE : ∀ {w' : World} {S' : Stab}, Keeps w (Sof P B M0 n0 env st.mem w) w' S' → All2 (EntRel P env S' w' kt vt) es ents.toList := fun hk' =>
    hents.mono fun x y _ hxy => let ⟨kd, q1, q2⟩ := hxy.1; ⟨⟨kd, valueD_mono hk' q1, q2⟩, valueD_mono hk' hxy.2⟩
  cases p with
  | none =>
    simp only at hpr
    subst hpr
    refine fin (ents.push { key := a.eval ko, val := a.eval xo, born := clock }) (clock + 1) { w with heap := w.heap.setIfInBounds (env mk).blk (.map (ents.push { key := a.eval ko, val := a.eval xo, born := clock }) (clock + 1)) } ?_ rfl rfl rfl rfl ?_
    · simp only [Instr.mapUpdate, Sem.run_bind, run_underlying hu, Result.andThen_ok, hmv, hget, hck, hf, foundAt, Option.map_none]
      exact run_setObj hh hnc
    · intro S' hk'
      rw [Array.toList_push]
      exact (keepE hk').append ⟨⟨⟨kd, valueD_mono hk' hkv, fun _ => rfl⟩, valueD_mono hk' hvv⟩, trivial⟩
  | some i =>
    simp only at hpr
    subst hpr
    have hi := hpl i rfl
    obtain ⟨en, hen, hk1, hv1⟩ := hents.get (List.getElem?_eq_getElem hi)
    obtain ⟨kd', hkd', hke⟩ := hk1
    have hil : i < ents.size := by have := hents.length; simp at this; omega
    obtain ⟨key, w1, hr1, hkey, e1, e2, e3, e4⟩ := keyThatStays_run (P := P) (((ents[i]?).map (·.key)).getD (a.eval ko)) (a.eval ko) w
    have hen' : ents[i]? = some en := by simpa using hen
    refine fin (ents.modify i fun e => { e with key, val := a.eval xo }) clock { w1 with heap := w1.heap.setIfInBounds (env mk).blk (.map (ents.modify i fun e => { e with key, val := a.eval xo }) clock) } ?_ (by rw [e1]) e2 e3 e4 ?_
    · simp only [Instr.mapUpdate, Sem.run_bind, run_underlying hu, Result.andThen_ok, hmv, hget, hck, hf, foundAt, Option.map_some, Nat.zero_add, hr1]
      exact run_setObj (by rw [e1]; exact hh) hnc
    · intro S' hk'
      have hmod : (ents.modify i fun e => { e with key, val := a.eval xo }).toList = ents.toList.set i { en with key, val := a.eval xo } := by
        apply List.ext_getElem?
        intro j
        rw [Array.getElem?_toList, Array.getElem?_modify, List.getElem?_set]
        by_cases hij : i = j
        · subst hij
          rw [if_pos rfl, if_pos rfl, if_pos (by simpa using hil), hen']
          rfl
        · rw [if_neg hij, if_neg hij]; simp
      rw [hmod]
      refine (keepE hk').set i ⟨?_, valueD_mono hk' hvv⟩
      rcases hkey with rfl | rfl
      · exact ⟨kd, valueD_mono hk' hkv, fun _ => rfl⟩
      · refine ⟨kd', ?_, fun q => ?_⟩
        · have : ((ents[i]?).map (·.key)).getD (a.eval ko) = en.key := by rw [hen']; rfl
          exact (fun (v : Value) (hv : v = en.key) => by subst hv; exact valueD_mono hk' hkd' : ∀ v, v = en.key → VRel P env S' _ (valueD P kt kd') v) _ this
        have h7 := posD_eq hp (List.getElem?_eq_getElem hi)
        have h8 := eqT_cong 12 kt _ _ (elCells P kt q) h7
        exact h8.trans (hke q)
end
end Go.AM
