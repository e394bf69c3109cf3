/- The abstract machine: loads, addresses, operators. -/
import Derived.Test.YtefmjfcdgadggaaAm4
set_option linter.all false
namespace Go.AM
open Go

section
variable {P : Program} {env : Env} {S : Stab} {w : World} {mem : AL Obj}
theorem box_cells {s : Slot} {cs : List C} (h : ObjRel P env S w s (.box cs)) : ∃ us, CellsAt w s.blk s.base us ∧ All2 (CRel P env S w) cs us := by
  obtain ⟨cur, T, h1, h2, h3⟩ := h
  exact ⟨_, (cellsAt_of_heap h1 s.base).take _, h3⟩
theorem row_el {s : Slot} {e : TypeId} {ex nl : Bool} {xs : List D} (h : ObjRel P env S w s (.row e ex nl xs)) {ix : Nat} (hi : ix < xs.length) :
    ∃ us, CellsAt w s.blk (ix * sizeB P e) us ∧ All2 (CRel P env S w) (elCells P e (xs.getD ix (.i 0))) us := by
  obtain ⟨_, ⟨_, rfl, _⟩ | ⟨_, _, cap, cur, _, h2, _, _, _, h6⟩⟩ := h
  · simp at hi
  · exact elCells_rel fun j k hk => let ⟨u, h7, h8⟩ := h6 ix j k hi hk; ⟨u, cell_of h2 h7, h8⟩
theorem el_cells {e : TypeId} {d : D} {b o : Nat} (h : ElAt P w S e d b o) : ∃ us, CellsAt w b o us ∧ All2 (CRel P env S w) (elCells P e d) us :=
  elCells_rel fun j k hk => let ⟨cv, _, h1, h2⟩ := h.2 j k hk; ⟨cv, h1, h2⟩
theorem sure_some {x : Option V} {c : Bool} {y : V} (h : sure x = some (c, y)) : c = true ∧ x = some y := by
  cases x with
  | none => cases h
  | some v => simp only [sure, Option.some.injEq, Prod.mk.injEq] at h; exact ⟨h.1.symm, by rw [h.2]⟩
theorem loadV_sound (hob : ∀ key o, get mem key = some o → ObjRel P env S w (env key) o) {T : TypeId} {x y : V} {vx : Value} (hx : VRel P env S w x vx) (h : loadV P mem T x = some (true, y)) :
    ∃ ad v, vx = .pointer (some ad) ∧ (loadVar T ad).run P w = .ok v w ∧ VRel P env S w y v := by
  unfold loadV at h
  split at h
  · rename_i key off
    split at h
    · rename_i cs hg
      obtain ⟨us, h1, h2⟩ := box_cells (hob _ _ hg)
      obtain ⟨v, h3, h4⟩ := readC_sound (sure_some h).2 h2 h1
      exact ⟨_, v, hx, h3, h4⟩
    · cases h
  · rename_i e d off
    obtain ⟨b, o, rfl, hel⟩ := hx
    obtain ⟨us, h1, h2⟩ := el_cells (env := env) hel
    obtain ⟨v, h3, h4⟩ := readC_sound (sure_some h).2 h2 h1
    exact ⟨_, v, rfl, h3, h4⟩
  · rename_i key e ix off
    split at h
    · rename_i e' ex nl xs hg
      cases he : Nat.beq e e' with
      | false => rw [he] at h; cases h
      | true =>
        have hee := Nat.eq_of_beq_eq_true he
        subst hee
        rw [he] at h
        simp only [cond_true] at h
        split at h
        · rename_i v hr
          simp only [Option.some.injEq, Prod.mk.injEq, decide_eq_true_eq] at h
          obtain ⟨hi, rfl⟩ := h
          obtain ⟨us, h1, h2⟩ := row_el (hob _ _ hg) hi
          obtain ⟨v, h3, h4⟩ := readC_sound hr h2 h1
          exact ⟨_, v, hx, h3, h4⟩
        · cases h
    · cases h
  · rename_i key base len esz ix off
    cases ha : isAggB P T || !tyB P T with
    | true => rw [ha] at h; cases h
    | false =>
      rw [ha] at h
      simp only [cond_false] at h
      simp only [Bool.or_eq_false_iff, Bool.not_eq_false'] at ha
      split at h
      · rename_i cs hg
        split at h
        · rename_i c hc
          simp only [Option.some.injEq, Prod.mk.injEq, true_and] at h
          subst h
          obtain ⟨us, h1, h2⟩ := box_cells (hob _ _ hg)
          obtain ⟨hlt, _, rfl⟩ := hx
          obtain ⟨u, h3, h4⟩ := pickAt_sound h2 hc (Nat.zero_le _) (by omega)
          refine ⟨_, u, rfl, run_loadVar_one ha.1 ha.2 ?_, h4⟩
          have := h1 _ u h3
          rwa [show (env key).base + (base + off + ix * esz) = (env key).base + (base + ix * esz) + off by omega] at this
        · cases h
      · cases h
  · cases h
theorem coe_sound {T : TypeId} {a : Act} {x : V} {v : Value} (h : VRelA P env S w a x v) : VRelA P env S w a (coe P T x) v := by
  unfold coe
  split
  · split
    · have hv : v = .slice none 0 0 := h
      subst hv
      exact RepD.nil _ _ rfl rfl
    · exact h
  · exact h
theorem coeC_sound {k : CK} {x : C} {v : Value} (h : CRel P env S w x v) : CRel P env S w (coeC k x) v := by
  unfold coeC
  split
  · split
    · have hv : v = .slice none 0 0 := h
      subst hv
      exact RepD.nil _ _ rfl rfl
    · exact h
  · exact h
theorem length_coeCs (ks : List CK) (cs : List C) : (coeCs ks cs).length = cs.length := by
  induction ks generalizing cs with
  | nil => rfl
  | cons k ks ih => cases cs with
    | nil => rfl
    | cons c cs => simp [coeCs, ih]
theorem coeCs_sound {ks : List CK} {cs : List C} {us : List Value} (h : All2 (CRel P env S w) cs us) : All2 (CRel P env S w) (coeCs ks cs) us := by
  induction ks generalizing cs us with
  | nil => exact h
  | cons k ks ih => cases cs with
    | nil => exact h
    | cons c cs => cases us with
      | nil => exact h.elim
      | cons u us => exact ⟨coeC_sound h.1, ih h.2⟩
theorem ofC_rel (v : Value) : CRel P env S w (ofC v) v := by
  cases v <;> first | rfl | simp [ofC, CRel]
theorem ofV_rel (v : Value) : VRel P env S w (ofV v) v := by
  cases v with
  | agg cs =>
    refine ⟨cs, rfl, .of_get (by simp) fun j x y hx hy => ?_⟩
    rw [List.getElem?_map, hy] at hx
    simp only [Option.map_some, Option.some.injEq] at hx
    subst hx
    exact ofC_rel y
  | bool x => exact ofC_rel (P := P) (env := env) (S := S) (w := w) (.bool x)
  | int k n => exact ofC_rel (P := P) (env := env) (S := S) (w := w) (.int k n)
  | string x => exact ofC_rel (P := P) (env := env) (S := S) (w := w) (.string x)
  | _ => rfl
theorem plain_one {c : C} {v : Value} (hp : plainC c = true) (h : CRel P env S w c v) : v.oneCell' = true ∧ v.cells = #[v] := by
  cases c with
  | u => cases hp
  | v x => have hv : v = x := h; subst hv; refine ⟨hp, ?_⟩; cases v <;> first | rfl | (simp [plainC, Value.oneCell'] at hp)
  | sl e n xs => cases (show RepD P w S (.sl e) (.l n xs) v from h) <;> exact ⟨rfl, rfl⟩
  | el e d off => obtain ⟨b, o, rfl, _⟩ := h; exact ⟨rfl, rfl⟩
  | pi k b l e i o => obtain ⟨_, _, rfl⟩ := h; exact ⟨rfl, rfl⟩
  | o k => have hv : v = (env k).hdr := h; subst hv; unfold Slot.hdr; split <;> exact ⟨rfl, rfl⟩
  | _ => simp only [CRel] at h; subst h; exact ⟨rfl, rfl⟩
theorem plain_coeC {k : CK} {c : C} (h : plainC (coeC k c) = true) (hc : c ≠ .u) : plainC c = true := by
  unfold coeC at h
  split at h
  · rfl
  · exact h
theorem allPlain_get {cs : List C} (h : allPlain cs = true) : ∀ c ∈ cs, plainC c = true := by
  induction cs with
  | nil => simp
  | cons c cs ih =>
    simp only [allPlain] at h
    cases hp : plainC c with
    | false => rw [hp] at h; cases h
    | true => rw [hp] at h; intro x hx; rcases List.mem_cons.1 hx with rfl | hx
              · exact hp
              · exact ih h x hx
theorem coeC_u {k : CK} : coeC k .u = .u := rfl
/-- What a value puts into memory. -/
theorem storeCellsV_sound {T : TypeId} {x : V} {v : Value} {new : List C} (hx : VRel P env S w x v) (h : storeCellsV P T x = some new) :
    All2 (CRel P env S w) new v.cells.toList ∧ v.cells.size = sizeB P T ∧ new.length = sizeB P T ∧ (∀ u ∈ v.cells.toList, u.oneCell' = true) := by
  unfold storeCellsV at h
  simp only at h
  cases hb : Nat.beq (coeCs (kinds P T) (cellsV x)).length (sizeB P T) && allPlain (coeCs (kinds P T) (cellsV x)) && !(coeCs (kinds P T) (cellsV x)).isEmpty with
  | false => rw [hb] at h; cases h
  | true =>
    rw [hb] at h
    simp only [cond_true, Option.some.injEq] at h
    simp only [Bool.and_eq_true] at hb
    obtain ⟨⟨hb1, hb2⟩, hb3⟩ := hb
    have hlen := Nat.eq_of_beq_eq_true hb1
    have key : All2 (CRel P env S w) (cellsV x) v.cells.toList := by
      cases x with
      | c c =>
        have hr : CRel P env S w c v := hx
        have : v.cells = #[v] := by
          simp only [cellsV] at hb2
          cases hk : kinds P T with
          | nil => rw [hk] at hb2; simp only [coeCs, allPlain] at hb2
                   cases hp : plainC c with
                   | false => rw [hp] at hb2; cases hb2
                   | true => exact (plain_one hp hr).2
          | cons k ks => rw [hk] at hb2; simp only [coeCs, allPlain] at hb2
                         cases hp : plainC (coeC k c) with
                         | false => rw [hp] at hb2; cases hb2
                         | true => exact (plain_one hp (coeC_sound hr)).2
        rw [this]
        exact ⟨hr, trivial⟩
      | g xs => obtain ⟨vs, rfl, h2⟩ := hx; exact h2
      | t xs =>
        exfalso
        have : (coeCs (kinds P T) (cellsV (.t xs))) = [] := List.eq_nil_of_length_eq_zero (by rw [length_coeCs]; rfl)
        rw [this] at hb3
        cases hb3
      | w _ _ _ => exact hx.elim
    subst h
    have hall := coeCs_sound (ks := kinds P T) key
    refine ⟨hall, ?_, hlen, ?_⟩
    · have := hall.length; simp at this; omega
    · intro u hu
      obtain ⟨j, hj⟩ := List.getElem?_of_mem hu
      have hl := hall.length
      have hjl : j < (coeCs (kinds P T) (cellsV x)).length := by rw [hl]; exact (List.getElem?_eq_some_iff.1 hj).1
      have hc := List.getElem?_eq_getElem hjl
      exact (plain_one (allPlain_get hb2 _ (List.getElem_mem hjl)) (hall.get2 hc hj)).1

/-! ### Addresses -/
theorem run_fieldPlace {fd : Field} (h : sizeB P fd.type ≠ 0) (b o : Nat) : (fieldPlace ⟨b, o, none⟩ fd).run P w = .ok ⟨b, o + fd.offset, none⟩ w := by
  unfold fieldPlace
  simp only [Sem.run_bind, run_sizeOf' (info_of_size h), Result.andThen_ok, if_neg h, Sem.run_pure, Addr.add_lit]
theorem addOff_sound {x y : V} {v : Value} {n : Nat} (hx : VRel P env S w x v) (h : addOff x n = some y) : ∃ b o, v = .pointer (some ⟨b, o, none⟩) ∧ VRel P env S w y (.pointer (some ⟨b, o + n, none⟩)) := by
  unfold addOff at h
  split at h <;> (try (cases h; done)) <;> simp only [Option.some.injEq] at h <;> subst h
  · exact ⟨_, _, hx, by simp [VRel, CRel, Nat.add_assoc]⟩
  · obtain ⟨b, o, rfl, h2⟩ := hx
    exact ⟨_, _, rfl, b, o, by simp [Nat.add_assoc], h2⟩
  · exact ⟨_, _, hx, by simp [VRel, CRel, Nat.add_assoc]⟩
  · exact ⟨_, _, hx.2.2, hx.1, hx.2.1, by simp [Nat.add_assoc]⟩
end
end Go.AM
