/- The abstract machine: every operation that changes the memory. -/
import Derived.Test.YtefmjfcdgadggaaAm25
set_option linter.all false
namespace Go.AM
open Go

section
variable {P : Program} {N n0 kb : Nat} {F : Nat → Prop} {B M0 : Stab} {w0 : World} {e0 env : Env} {st : St} {a : Act} {w : World}
theorem all2_maps {α β γ : Type} {R : β → γ → Prop} {f : α → β} {g : α → γ} : ∀ {l : List α}, (∀ x ∈ l, R (f x) (g x)) → All2 R (l.map f) (l.map g)
  | [], _ => trivial
  | x :: l, h => ⟨h x (by simp), all2_maps fun y hy => h y (by simp [hy])⟩
theorem repD_nil {S : Stab} {k : CK} {d : D} {v : Value} (h : RepD P w S k d v) (hn : d.isNil = true) : (∃ e, k = .sl e) → v = .slice none 0 0 := by
  intro he
  cases h with
  | nil => rfl
  | emp e d a cap h1 => rw [hn] at h1; cases h1
  | sl e d b off cap cv h1 => rw [hn] at h1; cases h1
  | _ => obtain ⟨e, he⟩ := he; cases he
theorem append_sound {R : Type} {d : Nat} {c : Call} {s x : Operand} {T T' : TypeId} {k : St → Option R} {r : R} {o : Oper} {Q : Exit → Act → World → Prop} {el : TypeId} {ys : List D}
    (h : Rel P N n0 B M0 w0 F e0 env st a w) (hd : d < N) (hF : ¬ F (kb + d)) (ho : o.op = .call c) (hdst : o.dst = some d) (hc : c.callee = .builtin .append) (ha : c.args.toList = [s, x]) (ht : c.argTypes.toList = [T, T']) (hT : T = T')
    (hel : elemOfSlice P T = some el) (hz : (zeroD P el).isNone = false) (hys : srcD st.mem el (evu st x) = some ys)
    (hk : (match evu st s with
            | .c (.o key) => (match get st.mem key with
              | some (.row el' ex nl xs) => bif Nat.beq el el' && roomB P el (xs.length + ys.length) then
                  k ((fresh (kb + d) (.row el ex (ys.isEmpty && nl) (xs ++ ys)) { st with mem := del st.mem key }).put (some d) (.c (.o (kb + d)))) else none
              | _ => none)
            | .c (.sl _ true []) | .c (.v (.slice none 0 0)) => bif roomB P el ys.length then
                k ((fresh (kb + d) (.row el true ys.isEmpty ys) st).put (some d) (.c (.o (kb + d)))) else none
            | _ => none) = some r) : o.wp P a w (After P N n0 B M0 w0 F e0 k r) Q := by
  subst hT
  have ha' : c.args = #[s, x] := by rw [← Array.toList_inj]; exact ha
  have ht' : c.argTypes = #[T, T] := by rw [← Array.toList_inj]; exact ht
  have hexec : ∀ {v : Value} {w' : World}, (Builtin.append_ #[T, T] o.type #[a.eval s, a.eval x]).run P w = .ok v w' → (execOp a.eval o).run P w = .ok (.value v) w' := by
    intro v w' hr
    simp only [execOp, ho, resolve, hc, ha', ht', Sem.run_bind, Sem.run_pure, Result.andThen_ok, invoke, builtin, List.map_toArray, List.map_cons, List.map_nil, hr]
  obtain ⟨z, hz'⟩ := Option.isSome_iff_exists.1 (by rw [← Option.not_isNone, hz]; rfl : (zeroD P el).isSome = true)
  obtain ⟨zv, _, ⟨i, hi, hiz⟩, hzs, _⟩ := zeroD_sound hz'
  have hsrc := srcD_sound h (h.evu x) hys
  have es := h.evu s
  have fin : ∀ {v : Value} {w' : World} {env' : Env} {o' : Obj} {mem0 : AL Obj}, (Builtin.append_ #[T, T] o.type #[a.eval s, a.eval x]).run P w = .ok v w' → Rel P N n0 B M0 w0 F e0 env' (fresh (kb + d) o' { st with mem := mem0 }) a w' → v = (env' (kb + d)).hdr →
      k ((fresh (kb + d) o' { st with mem := mem0 }).put (some d) (.c (.o (kb + d)))) = some r → o.wp P a w (After P N n0 B M0 w0 F e0 k r) Q := by
    intro v w' env' o' mem0 h1 h2 h3 h4
    refine wp_value (hexec h1) ?_
    rw [hdst]
    exact ⟨env', _, h2.put (fun _ hdd => by cases hdd; exact hd) (VRelA.of (x := .c (.o (kb + d))) h3), h4⟩
  have nilCase : a.eval s = .slice none 0 0 → ∀ (mem0 : AL Obj) (ex : Bool), (∀ k ob, get mem0 k = some ob → get st.mem k = some ob) → roomB P el ys.length = true →
      k ((fresh (kb + d) (.row el ex ys.isEmpty ys) { st with mem := mem0 }).put (some d) (.c (.o (kb + d)))) = some r → o.wp P a w (After P N n0 B M0 w0 F e0 k r) Q := by
    intro hs mem0 ex hsub hroom hkk
    simp only [roomB, Bool.and_eq_true, decide_eq_true_eq] at hroom
    obtain ⟨v, w', env', q1, q2, q3⟩ := append_nil_sound h hsub (ty := o.type) hel hi hiz hzs hsrc hroom.1 hroom.2 (kb + d) hF ex
    rw [← hs] at q1
    exact fin q1 q2 q3 hkk
  split at hk
  · rename_i key hkey
    rw [hkey] at es
    have hsv : a.eval s = (env key).hdr := es
    split at hk
    · rename_i el' ex nl xs hg
      cases hb : Nat.beq el el' && roomB P el (xs.length + ys.length) with
      | false => rw [hb] at hk; cases hk
      | true =>
        rw [hb] at hk
        simp only [cond_true] at hk
        simp only [Bool.and_eq_true] at hb
        have := Nat.eq_of_beq_eq_true hb.1
        subst this
        have hroom := hb.2
        cases nl with
        | true =>
          obtain ⟨_, ⟨_, rfl, hnil⟩ | ⟨hf, _⟩⟩ := h.ob _ _ hg
          · rw [List.length_nil, Nat.zero_add] at hroom
            refine nilCase (hsv.trans hnil) (del st.mem key) ex (fun k ob hgk => (get_del_sub k ob hgk).2) hroom ?_
            simpa using hk
          · cases hf
        | false =>
          simp only [roomB, Bool.and_eq_true, decide_eq_true_eq] at hroom
          obtain ⟨v, w', env', q1, q2, q3⟩ := append_row_sound h (ty := o.type) hel hg hi hiz hzs hsrc hroom.1 hroom.2 (kb + d) hF
          rw [← hsv] at q1
          exact fin q1 q2 q3 (by simpa using hk)
    · cases hk
  · rename_i hsl
    rw [hsl] at es
    cases hb : roomB P el ys.length with
    | false => rw [hb] at hk; cases hk
    | true =>
      rw [hb] at hk
      refine nilCase ?_ st.mem true (fun _ _ hg => hg) hb hk
      exact repD_nil es rfl ⟨_, rfl⟩
  · rename_i hsl
    rw [hsl] at es
    cases hb : roomB P el ys.length with
    | false => rw [hb] at hk; cases hk
    | true =>
      rw [hb] at hk
      exact nilCase es st.mem true (fun _ _ hg => hg) hb hk
  · cases hk
theorem freshB_slot {o : Oper} {d : Nat} (hv : isVal o = false) (he : isEnter o = false) (hd : o.dst = some d) : freshB kb o (kb + d) = true := by
  unfold freshB
  rw [hv, he, hd]
  simp [beq_eq']
theorem stOp_sound {R : Type} {cl : Oracle} (hcl : OracleOk P cl) {o : Oper} {k : St → Option R} {r : R} {Q : Exit → Act → World → Prop} (hF : ∀ k, freshB kb o k = true → ¬ F k) (hv : isVal o = false) (h : Rel P N n0 B M0 w0 F e0 env st a w) (hd : ∀ d, o.dst = some d → d < N) (hk : stOp P cl kb o st k = some r) :
    o.wp P a w (After P N n0 B M0 w0 F e0 k r) Q := by
  unfold stOp at hk
  simp only at hk
  split at hk
  · rename_i T d ho hdst
    split at hk
    · rename_i z hz; exact alloc_sound h (hd d hdst) (hF _ (freshB_slot hv (by simp [isEnter, ho]) hdst)) ho hdst hz hk
    · cases hk
  · rename_i T x d ho hdst
    split at hk
    · rename_i z hz; exact box_sound h (hd d hdst) (hF _ (freshB_slot hv (by simp [isEnter, ho]) hdst)) ho hdst hz hk
    · cases hk
  · rename_i T ad x ho
    split at hk
    · rename_i c mem hs
      cases c with
      | false => cases hk
      | true =>
        have hsh := Rel.share (match evu st ad with | .c (.re ..) => rowsV (evu st x) | _ => []) (mem := st.mem) h
        exact store_sound hsh hd ho (by rw [evu_mem, evu_mem]; exact hs) hk
    · cases hk
  · rename_i T n parts d ho hdst
    split at hk
    · rename_i el hel
      split at hk
      · rename_i z hz
        split at hk
        · rename_i ds hds
          cases hn : decide (n * sizeB P el ≤ 16777216) with
          | false => rw [hn] at hk; cases hk
          | true =>
            rw [hn] at hk
            have hsh := Rel.share ((parts.toList.map fun (i, x) => (i, evu st x)).flatMap fun p => rowsV p.2) (mem := st.mem) h
            exact buildSlice_sound hsh (hd d hdst) (hF _ (freshB_slot hv (by simp [isEnter, ho]) hdst)) ho hdst hel hz (by simpa only [evu_mem] using hds) (by simpa using hn) hk
        · cases hk
      · cases hk
    · cases hk
  · rename_i T l c d ho hdst
    split at hk
    · rename_i el n m hel hl hc
      split at hk
      · rename_i z hz
        cases hb : decide (0 ≤ n) && decide (n ≤ m) && roomB P el m.toNat with
        | false => rw [hb] at hk; cases hk
        | true =>
          rw [hb] at hk
          simp only [Bool.and_eq_true, decide_eq_true_eq] at hb
          exact makeSlice_sound h (hd d hdst) (hF _ (freshB_slot hv (by simp [isEnter, ho]) hdst)) ho hdst hel hl hc hz hb.1.1 hb.1.2 hb.2 hk
      · cases hk
    · cases hk
  · rename_i T d ho hdst
    split at hk
    · exact makeMap_sound h (hd d hdst) (hF _ (freshB_slot hv (by simp [isEnter, ho]) hdst)) ho hdst hk
    · cases hk
  · rename_i T m key x ho
    split at hk
    · rename_i mk kt' vt' hm hu
      split at hk
      · rename_i kt vt es hg
        cases hb : Nat.beq kt kt' with
        | false => rw [hb] at hk; cases hk
        | true =>
          rw [hb] at hk
          have := Nat.eq_of_beq_eq_true hb
          subst this
          simp only [cond_true] at hk
          split at hk
          · rename_i kd vd hkd hvd
            split at hk
            · rename_i b hself
              exact mapUpdate_sound h hd (by simp only [execOp, ho]) hm hu hg hkd hvd hself (putD_B hself es) hk
            · cases hk
          · cases hk
      · cases hk
    · cases hk
  · rename_i c ho
    split at hk
    · rename_i hc
      split at hk
      · rename_i d s x T T' hdst ha ht
        cases hT : Nat.beq T T' with
        | false => rw [show (!Nat.beq T T') = true by rw [hT]; rfl] at hk; cases hk
        | true =>
          rw [show (!Nat.beq T T') = false by rw [hT]; rfl] at hk
          simp only [cond_false] at hk
          split at hk
          · rename_i el hel
            cases hz : (zeroD P el).isNone with
            | true => rw [hz] at hk; cases hk
            | false =>
              rw [hz] at hk
              simp only [cond_false] at hk
              split at hk
              · rename_i ys hys
                exact append_sound h (hd d hdst) (hF _ (freshB_slot hv (by simp [isEnter, ho, hc]) hdst)) ho hdst hc ha ht (Nat.eq_of_beq_eq_true hT) hel hz hys hk
              · cases hk
          · cases hk
      · cases hk
    · rename_i f hc
      split at hk
      · rename_i fn caps hf
        refine callOp_sound hcl (vs := c.args.map a.eval ++ (caps.map (capV env)).toArray) (fun k h1 h2 => hF k (by unfold freshB; rw [hv, cond_false rfl, show isEnter o = true by simp [isEnter, ho, hc], cond_true rfl, Nat.ble_eq_true_of_le h1, show Nat.blt k _ = true from Nat.ble_eq_true_of_le h2]; rfl)) h hd ?_ ?_ hk
        · intro hent
          have hv : a.eval f = .func (.func fn) #[] (caps.map (capV env)).toArray := by have := h.evu f; rw [hf] at this; exact this
          simp only [execOp, ho, resolve, hc, hv, Deferred.ofValue, Sem.run_bind, Sem.run_pure, Result.andThen_ok, invoke]
          simpa using run_callFunc hent
        · intro mem hm
          simp only [Array.toList_append, Array.toList_map]
          refine All2.append ?_ ?_
          · refine All2.of_get (by simp) fun j y v hy hv => ?_
            simp only [List.getElem?_map, List.getElem?_zipIdx, Nat.zero_add] at hy hv
            cases hj : c.args.toList[j]? with
            | none => rw [hj] at hv; cases hv
            | some x =>
              rw [hj] at hy hv
              simp only [Option.map_some, Option.some.injEq] at hy hv
              subst hy hv
              have hx := hm.evu x
              rw [evu_mem] at hx
              split
              · exact coe_rel hx
              · exact hx
          · exact all2_maps fun x _ => rfl
      · cases hk
    · cases hk
  · cases hk
end
end Go.AM
