/- The abstract machine: a store does what it says. -/
import Derived.Test.YtefmjfcdgadggaaAm16
set_option linter.all false
namespace Go.AM
open Go

section
variable {P : Program} {N n0 kb : Nat} {F : Nat → Prop} {B M0 : Stab} {w0 : World} {e0 env : Env} {st : St} {a : Act} {w : World}
theorem row_store {key ix : Nat} {e : TypeId} {nl : Bool} {xs : List D} {off : Nat} {new : List C} {d : D} {vs : List Value} (h : Rel P N n0 B M0 w0 F e0 env st a w) (hg : get st.mem key = some (.row e true nl xs)) (hix : ix < xs.length)
    (hoff : off + new.length ≤ (kinds P e).length) (hnew : All2 (CRel P env (Sof P B M0 n0 env st.mem w) w) new vs) (hd : cellsD P st.mem e (splice (elCells P e (xs.getD ix (.i 0))) off new) = some d) :
    ∃ cur E, w.heap[(env key).blk]? = some (.cells cur E (0, 0)) ∧ ix * sizeB P e + off + vs.length ≤ cur.size ∧
      Rel P N n0 B M0 w0 F e0 env { st with mem := set st.mem key (.row e true nl (xs.set ix d)) } a (w.setRow (env key).blk (cur.toList.take (ix * sizeB P e + off) ++ vs ++ cur.toList.drop (ix * sizeB P e + off + vs.length)).toArray) := by
  have hrow := h.ob _ _ hg
  obtain ⟨us, hus1, hus2⟩ := row_el hrow hix
  obtain ⟨h0, ⟨_, rfl, _⟩ | ⟨hn, hb, cap, cur, h1, h2, h3, h4, h5, h6⟩⟩ := hrow
  · simp at hix
  · subst hn
    have hvl := hnew.length
    have hcell : ix * sizeB P e + (kinds P e).length ≤ cur.size := by
      rw [h5, ← h0]
      have : (ix + 1) * sizeB P e ≤ cap * sizeB P e := Nat.mul_le_mul_right _ (by omega)
      rw [Nat.add_mul, Nat.one_mul] at this
      omega
    have hfit : ix * sizeB P e + off + vs.length ≤ cur.size := by omega
    refine ⟨cur, e, h2, hfit, ?_⟩
    refine Rel.upd h hg (fun b x => b = (env key).blk ∧ ix * sizeB P e + off ≤ x ∧ x < ix * sizeB P e + off + vs.length) ?_ ?_ ?_ (fun hr => hr) ?_ rfl ?_ ?_
    · refine chg_setRow h2 (by simp; omega) fun x hx => ?_
      rw [seg_array hfit, if_neg (fun hc => hx ⟨rfl, hc⟩)]
    · rintro b x ⟨rfl, _, _⟩; exact ⟨rfl, rfl, .inl rfl⟩
    · rintro b x ⟨_, h7, _⟩; exact ⟨rfl, h7, .inl rfl⟩
    · intro b hb; exact setRow_other _ _ _ _ hb
    · intro S' hk
      refine ⟨h0, .inr ⟨rfl, hb, cap, _, by rw [List.length_set]; exact h1, setRow_heap w _ cur _ e _ h2, by rw [List.length_set]; exact h3, h4, by rw [← h5]; simp; omega, ?_⟩⟩
      intro i j kk hi hkk
      rw [List.length_set] at hi
      have hj : j < (kinds P e).length := (List.getElem?_eq_some_iff.1 hkk).1
      obtain ⟨u0, hu0, hr0⟩ := h6 i j kk hi hkk
      by_cases hii : i = ix
      · subst hii
        have hgd : (xs.set i d).getD i (.i 0) = d := by
          rw [List.getD_eq_getElem?_getD, List.getElem?_set_self hix]; rfl
        rw [hgd]
        -- the cells of the element, the new ones laid over the old
        have hul : us.length = (kinds P e).length := by rw [← hus2.length, length_elCells]
        have hall : All2 (CRel P env (Sof P B M0 n0 env st.mem w) w) (splice (elCells P e (xs.getD i (.i 0))) off new) (us.take off ++ vs ++ us.drop (off + vs.length)) := splice_rel hus2 hnew
        have hcells : (kinds P e).length = (us.take off ++ vs ++ us.drop (off + vs.length)).length ∧ ∀ (j : Nat) (k : CK), (kinds P e)[j]? = some k → ∃ u, (us.take off ++ vs ++ us.drop (off + vs.length))[j]? = some u ∧ RepD P w (Sof P B M0 n0 env st.mem w) k (elD P e d j) u := by
          unfold cellsD at hd
          cases ha : isAggB P e with
          | true =>
            rw [ha] at hd
            simp only [cond_true] at hd
            have := asD_cells (x := .g (splice (elCells P e (xs.getD i (.i 0))) off new)) (v := .agg (us.take off ++ vs ++ us.drop (off + vs.length)).toArray) h.ob h.rows ⟨_, rfl, by simpa using hall⟩ hd
            simpa [Value.cells] using this
          | false =>
            rw [ha] at hd
            simp only [cond_false] at hd
            have hone := kinds_one ha
            have hone' : (us.take off ++ vs ++ us.drop (off + vs.length)).length = us.length := seg_length _ _ _ (by omega)
            split at hd
            · rename_i c hc
              rw [hc] at hall
              match hz : (us.take off ++ vs ++ us.drop (off + vs.length)), hall with
              | [u], hall' =>
                have := asD_cells (v := u) h.ob h.rows (show VRel P env _ w (.c c) u from hall'.1) hd
                have hcu : u.cells = #[u] := by
                  unfold asD at hd
                  rw [ha] at hd
                  simp only [cond_false] at hd
                  split at hd
                  · rename_i c' k' e1 e2
                    cases e1
                    have := fit_sound h.ob h.rows hall'.1 hd
                    cases this <;> rfl
                  · cases hd
                rw [hcu] at this
                simpa using this
            · simp [asD, ha] at hd
        obtain ⟨u, hu, hru⟩ := hcells.2 j kk hkk
        refine ⟨u, ?_, hru.mono hk⟩
        rw [seg_array hfit]
        rw [seg_get _ _ _ _ (by omega)] at hu
        by_cases hin : off ≤ j ∧ j < off + vs.length
        · rw [if_pos hin] at hu
          rw [if_pos (by omega), ← hu]; congr 1; omega
        · rw [if_neg hin] at hu
          rw [if_neg (by omega)]
          have := hus1 j u hu
          obtain ⟨c2, _, _, g1, g2⟩ := cell_some this
          rw [h2] at g1
          simp only [Option.some.injEq, Go.Obj.cells.injEq] at g1
          rw [g1.1]; exact g2
      · have hgd : (xs.set ix d).getD i (.i 0) = xs.getD i (.i 0) := by
          rw [List.getD_eq_getElem?_getD, List.getElem?_set_ne (Ne.symm hii), List.getD_eq_getElem?_getD]
        rw [hgd]
        refine ⟨u0, ?_, hr0.mono hk⟩
        rw [seg_array hfit, if_neg ?_]
        · exact hu0
        · intro hc
          rcases Nat.lt_or_gt_of_ne hii with hlt | hgt
          · have := mul_lt (s := sizeB P e) (j := j) hlt (by rw [h0]; exact hj)
            omega
          · have h7 : (ix + 1) * sizeB P e ≤ i * sizeB P e := Nat.mul_le_mul_right _ hgt
            rw [Nat.add_mul, Nat.one_mul] at h7
            omega
    · intro e' ex xs' he x hx
      simp only [Obj.row.injEq] at he
      obtain ⟨rfl, rfl, _, rfl⟩ := he
      exact h.pr key _ _ xs hg x (by simpa using hx)
theorem store_sound {R : Type} {T : TypeId} {ad x : Operand} {mem' : AL Obj} {k : St → Option R} {r : R} {o : Oper} {Q : Exit → Act → World → Prop} (h : Rel P N n0 B M0 w0 F e0 env st a w) (hd : ∀ d, o.dst = some d → d < N) (ho : o.op = .store T ad x)
    (hs : storeM P st.mem T (evu st ad) (evu st x) = some (true, mem')) (hk : k (St.put { st with mem := mem' } o.dst (.c .u)) = some r) : o.wp P a w (After P N n0 B M0 w0 F e0 k r) Q := by
  unfold storeM at hs
  split at hs
  · cases hs
  · rename_i new hnew
    obtain ⟨h1, h2, h3, h4⟩ := storeCellsV_sound (h.evu x) hnew
    have hne : sizeB P T ≠ 0 := by
      unfold storeCellsV at hnew
      simp only at hnew
      cases hb : Nat.beq (coeCs (kinds P T) (cellsV (evu st x))).length (sizeB P T) && allPlain (coeCs (kinds P T) (cellsV (evu st x))) && !(coeCs (kinds P T) (cellsV (evu st x))).isEmpty with
      | false => rw [hb] at hnew; cases hnew
      | true =>
        simp only [Bool.and_eq_true] at hb
        have hl := Nat.eq_of_beq_eq_true hb.1.1
        intro hz
        rw [hz] at hl
        have : (coeCs (kinds P T) (cellsV (evu st x))) = [] := List.eq_nil_of_length_eq_zero hl
        rw [this] at hb
        cases hb.2
    have hvl := h1.length
    have had := h.evu ad
    have fin : ∀ {w' : World}, (Instr.storeAt T (a.eval ad) (a.eval x)).run P w = .ok () w' → Rel P N n0 B M0 w0 F e0 env { st with mem := mem' } a w' → o.wp P a w (After P N n0 B M0 w0 F e0 k r) Q := by
      intro w' hrun hrel
      refine wp_skip' (w' := w') ?_ ⟨env, _, hrel.put_u hd undef, hk⟩
      simp only [execOp, ho, Sem.run_bind, hrun, Result.andThen_ok, Sem.run_pure]
    split at hs
    · rename_i key off hea
      rw [hea] at had
      have hadv : a.eval ad = .pointer (some ⟨(env key).blk, (env key).base + off, none⟩) := had
      split at hs
      · rename_i cs hg
        cases hl : Nat.ble (off + new.length) cs.length with
        | false => rw [hl] at hs; cases hs
        | true =>
          rw [hl] at hs
          simp only [cond_true, Option.some.injEq, Prod.mk.injEq, true_and] at hs
          subst hs
          have hle := Nat.le_of_ble_eq_true hl
          obtain ⟨cur, E, g1, g2, g3⟩ := h.ob _ _ hg
          have hst := run_storeAt (P := P) (T := T) g1 h2 hne h4 (o := (env key).base + off) (by omega)
          rw [← hadv] at hst
          refine fin hst (box_store h hg g1 g2 (by unfold splice; simp; omega) (by omega) fun S' w' hkeep => ?_)
          exact splice_rel (g3.mono fun c u _ hcu => CRel.mono hkeep (fun _ _ => rfl) hcu) (h1.mono fun c u _ hcu => CRel.mono hkeep (fun _ _ => rfl) hcu)
      · cases hs
    · rename_i key base len esz ix off hea
      rw [hea] at had
      obtain ⟨hlt, hesz, hadv⟩ := had
      split at hs
      · rename_i cs hg
        split at hs
        · rename_i c
          split at hs
          · rename_i cs' hcs'
            simp only [Option.some.injEq, Prod.mk.injEq, true_and] at hs
            subst hs
            obtain ⟨cur, E, g1, g2, g3⟩ := h.ob _ _ hg
            match hv : (a.eval x).cells.toList, h1 with
            | [u], h1' =>
              obtain ⟨s1, s2, s3⟩ := storeAt_sound h1'.1 hesz g3 hcs'
              rw [if_pos (by omega)] at s1
              have hin := s3 ix (Nat.zero_le _) (by omega)
              have hst := run_storeAt (P := P) (T := T) (vx := a.eval x) g1 h2 hne h4 (o := (env key).base + (base + ix * esz) + off) (by rw [hv]; simp; omega)
              rw [hv] at hst
              have hpos : (env key).base + (base + ix * esz) + off = (env key).base + (base + off + ix * esz) := by omega
              rw [hpos] at hst
              rw [hpos] at hadv
              rw [← hadv] at hst
              refine fin hst (box_store (vs := [u]) h hg g1 g2 s2 (by simp; omega) fun S' w' hkeep => ?_)
              have e1 : ((cur.toList.drop (env key).base).take cs.length).take (base + off + ix * esz) ++ [u] ++ ((cur.toList.drop (env key).base).take cs.length).drop (base + off + ix * esz + [u].length) = ((cur.toList.drop (env key).base).take cs.length).set (base + off + ix * esz) u := by
                rw [List.set_eq_take_append_cons_drop, if_pos (by rw [← g3.length]; exact hin)]
                simp
              rw [e1]
              exact s1.mono fun c u _ hcu => CRel.mono hkeep (fun _ _ => rfl) hcu
            | [], h1' => exact h1'.elim
            | _ :: _ :: _, h1' => exact h1'.2.elim
          · cases hs
        · cases hs
      · cases hs
    · rename_i key e ix off hea
      rw [hea] at had
      have hadv : a.eval ad = .pointer (some ⟨(env key).blk, ix * sizeB P e + off, none⟩) := had
      split at hs
      · rename_i e' nl xs hg
        cases hl : Nat.beq e e' && Nat.ble (off + new.length) (kinds P e).length with
        | false => rw [hl] at hs; cases hs
        | true =>
          rw [hl] at hs
          simp only [Bool.and_eq_true] at hl
          have := Nat.eq_of_beq_eq_true hl.1
          subst this
          have hle := Nat.le_of_ble_eq_true hl.2
          simp only [cond_true] at hs
          split at hs
          · rename_i d hd'
            simp only [Option.some.injEq, Prod.mk.injEq, decide_eq_true_eq] at hs
            obtain ⟨hix, rfl⟩ := hs
            obtain ⟨cur, E, q1, q2, q3⟩ := row_store h hg hix hle h1 hd'
            have hst := run_storeAt (P := P) (T := T) q1 h2 hne h4 (o := ix * sizeB P e + off) q2
            rw [← hadv] at hst
            exact fin hst q3
          · cases hs
      · cases hs
    · cases hs
end
end Go.AM
