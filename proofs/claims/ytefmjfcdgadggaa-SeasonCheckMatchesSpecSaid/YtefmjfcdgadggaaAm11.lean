/- The abstract machine: every operation that leaves the memory alone. -/
import Derived.Test.YtefmjfcdgadggaaAm10
set_option linter.all false
namespace Go.AM
open Go

section
variable {P : Program} {env : Env} {S : Stab} {w : World} {mem : AL Obj}
theorem valueD_1 {T : TypeId} {d : D} {v : Value} (h : VRel P env S w (valueD P T d) v) : VRel1 P env S w (valueD P T d) v := by
  unfold valueD at h ⊢
  cases ha : isAggB P T with
  | true => rw [ha] at h; exact h
  | false => rw [ha] at h; simp only [cond_false] at h ⊢; split at h <;> exact h
theorem lookupV_sound (hob : ∀ key o, get mem key = some o → ObjRel P env S w (env key) o) (hst : RowsStable P env S mem) {T : TypeId} {x k y : V} {vx vk : Value} {ok : Bool} (hx : VRel P env S w x vx) (hk : VRel P env S w k vk) (h : lookupV P mem T x k ok = some y) :
    ∃ v, (Instr.lookup T vx vk ok).run P w = .ok v w ∧ VRel P env S w y v := by
  unfold lookupV at h
  split at h
  · rename_i key kt' vt' hu
    split at h
    · rename_i kt vt es hg
      cases hb : Nat.beq kt kt' && Nat.beq vt vt' with
      | false => rw [hb] at h; cases h
      | true =>
        rw [hb] at h
        simp only [Bool.and_eq_true] at hb
        have e1 := Nat.eq_of_beq_eq_true hb.1
        have e2 := Nat.eq_of_beq_eq_true hb.2
        subst e1 e2
        simp only [cond_true] at h
        split at h
        · rename_i kd z hkd hz
          split at h
          · rename_i b zd hb' hzd
            have hr := findD_B hb' es
            have hforms : ∀ (r : Option D), valueD P vt (r.getD zd) = valueD P vt (match r with | some d => d | none => zd) ∧ r.isSome = (match r with | some _ => true | none => false) := fun r => by cases r <;> exact ⟨rfl, rfl⟩
            simp only [Option.some.injEq] at h
            rw [(hforms _).1, (hforms _).2] at h
            generalize findB P kt kd es = r at hr h
            obtain ⟨ents, clock, hh, hents⟩ := hob _ _ hg
            obtain ⟨p, hp, hpl, hpr⟩ := findD_pos hr
            have hkv := valueD_of_asD hob hst hk hkd
            have hself : ∃ b, eqD P kt kd kd = some b := ⟨b, hb'⟩
            have hf := run_findKey hkv hself hents hp
            have hck := checkKey_sound (w := w) ents.isEmpty 12 kt _ _ _ vk hb' (ofT_valueD hkv hb') 10000 (by decide)
            obtain ⟨zv, hzr, hzrel⟩ := zeroVal_sound (env := env) (S := S) (w := w) hz
            have hvx : vx = .map (some (env key).blk) := hx
            subst hvx
            have hget : (getObj (env key).blk).run P w = .ok (.map ents clock) w := by
              unfold getObj; simp only [Sem.run, hh]
            simp only [Instr.lookup, Sem.run_bind, run_underlying hu, Result.andThen_ok, hget, Sem.run_pure, hck, hf]
            cases p with
            | none =>
              simp only [Option.bind_none] at hpr
              subst hpr
              simp only [foundAt, Option.map_none, Sem.run_bind, hzr, Result.andThen_ok, Sem.run_pure]
              refine ⟨_, rfl, ?_⟩
              subst h
              have hzD := valueD_of_asD hob hst hzrel hzd
              cases ok with
              | true => exact ⟨#[zv, .bool false], rfl, valueD_1 hzD, rfl, trivial⟩
              | false => exact hzD
            | some i =>
              have hi := hpl i rfl
              obtain ⟨en, hen, henr⟩ := hents.get (List.getElem?_eq_getElem hi)
              have hval : ((ents.toList.getD i default).val) = en.val := by rw [List.getD_eq_getElem?_getD, hen]; rfl
              simp only [Option.bind_some, List.getElem?_eq_getElem hi, Option.map_some] at hpr
              subst hpr
              simp only [foundAt, Option.map_some, hval]
              refine ⟨_, rfl, ?_⟩
              subst h
              cases ok with
              | true => exact ⟨#[en.val, .bool true], rfl, valueD_1 henr.2, rfl, trivial⟩
              | false => exact henr.2
          · cases h
        · cases h
    · cases h
  · cases h
theorem inB_true {i : Int} {n : Nat} (h : inB i n = true) : 0 ≤ i ∧ i < n := by
  unfold inB at h
  simpa using h
theorem indexAddrV_sound (hob : ∀ key o, get mem key = some o → ObjRel P env S w (env key) o) {T : TypeId} {x ix y : V} {vx vi : Value} (hx : VRel P env S w x vx) (hi : VRel P env S w ix vi) (h : indexAddrV P mem T x ix = some (true, y)) :
    ∃ v, (Instr.indexAt T vx vi).run P w = .ok v w ∧ VRel P env S w y v := by
  unfold indexAddrV at h
  split at h
  · rename_i k i
    have hvi : vi = .int k i := hi
    subst hvi
    split at h
    · rename_i e' e nl xs hu
      cases he : Nat.beq e e' && tyB P e with
      | false => rw [he] at h; cases h
      | true =>
        rw [he] at h
        simp only [Bool.and_eq_true] at he
        obtain ⟨he, hty⟩ := he
        have := Nat.eq_of_beq_eq_true he
        subst this
        simp only [cond_true, Option.some.injEq, Prod.mk.injEq] at h
        obtain ⟨hb, rfl⟩ := h
        obtain ⟨h0, h1⟩ := inB_true hb
        have hr : RepD P w S (.sl e) (.l nl xs) vx := hx
        cases hr with
        | nil e d a1 a2 =>
          have : xs = [] := a2
          subst this
          simp at h1; omega
        | emp e d ad cap a1 a2 am =>
          have : xs = [] := a2
          subst this
          simp at h1; omega
        | sl e d b off cap cv a1 a2 a3 am a4 a5 =>
          have hin : i.toNat < xs.length := by omega
          refine ⟨.pointer (some ⟨b, off + i.toNat * sizeB P e, none⟩), ?_, b, off + i.toNat * sizeB P e, rfl, a2, ?_⟩
          · simp only [Instr.indexAt, asIntOf, Sem.run_bind, Sem.run_pure, Result.andThen_ok, run_underlying hu, D.items]
            rw [if_pos ⟨h0, h1⟩]
            simp only [Sem.run_bind, run_sizeOf hty, Result.andThen_ok, Sem.run_pure, Addr.add_lit]
          · intro j k hk
            have hj : j < (kinds P e).length := (List.getElem?_eq_some_iff.1 hk).1
            obtain ⟨c1, c2⟩ := a4 i.toNat hin j hj
            exact ⟨_, c1, c2, a5 i.toNat hin j k hk⟩
    · rename_i e' key hu
      split at h
      · rename_i e ex nl xs hg
        cases he : Nat.beq e e' && tyB P e with
        | false => rw [he] at h; cases h
        | true =>
          rw [he] at h
          simp only [Bool.and_eq_true] at he
          obtain ⟨he, hty⟩ := he
          have := Nat.eq_of_beq_eq_true he
          subst this
          simp only [cond_true, Option.some.injEq, Prod.mk.injEq] at h
          obtain ⟨hb, rfl⟩ := h
          obtain ⟨h0, h1⟩ := inB_true hb
          have hv : vx = (env key).hdr := hx
          obtain ⟨_, ⟨_, rfl, _⟩ | ⟨_, _, cap, cur, g1, _⟩⟩ := hob _ _ hg
          · simp at h1; omega
          · rw [hv, g1]
            refine ⟨.pointer (some ⟨(env key).blk, i.toNat * sizeB P e, none⟩), ?_, by simp [VRel, CRel]⟩
            simp only [Instr.indexAt, asIntOf, Sem.run_bind, Sem.run_pure, Result.andThen_ok, run_underlying hu]
            rw [if_pos ⟨h0, h1⟩]
            simp only [Sem.run_bind, run_sizeOf hty, Result.andThen_ok, Sem.run_pure, Addr.add_lit, Nat.zero_add]
      · cases h
    · rename_i len e key off hu
      cases hs : Nat.beq (sizeB P e) 0 with
      | true => rw [hs] at h; cases h
      | false =>
        rw [hs] at h
        simp only [cond_false, Option.some.injEq, Prod.mk.injEq] at h
        obtain ⟨hb, rfl⟩ := h
        obtain ⟨h0, h1⟩ := inB_true hb
        have hne : sizeB P e ≠ 0 := by rw [beq_eq'] at hs; simpa using hs
        have hv : vx = .pointer (some ⟨(env key).blk, (env key).base + off, none⟩) := hx
        subst hv
        refine ⟨.pointer (some ⟨(env key).blk, (env key).base + off + i.toNat * sizeB P e, none⟩), ?_, by omega, by omega, by simp [Nat.add_assoc]⟩
        simp only [Instr.indexAt, asIntOf, Sem.run_bind, Sem.run_pure, Result.andThen_ok, run_underlying hu, Instr.sureAddr]
        rw [if_pos ⟨h0, h1⟩]
        simp only [Sem.run_bind, run_sizeOf' (info_of_size hne), Result.andThen_ok, Sem.run_pure, Addr.add_lit]
    · cases h
  · cases h
theorem indexV_sound {T : TypeId} {x ix y : V} {vx vi : Value} (hx : VRel P env S w x vx) (hi : VRel P env S w ix vi) (h : indexV P T x ix = some (true, y)) :
    ∃ v, (Instr.index T vx vi).run P w = .ok v w ∧ VRel P env S w y v := by
  unfold indexV at h
  split at h
  · rename_i l k i hu
    simp only [Option.some.injEq, Prod.mk.injEq] at h
    obtain ⟨hb, rfl⟩ := h
    obtain ⟨h0, h1⟩ := inB_true hb
    simp only [VRel, CRel] at hx hi
    subst hx hi
    have hin : i.toNat < l.length := by omega
    refine ⟨_, ?_, rfl⟩
    have hget : (ByteArray.mk l.toArray)[i.toNat]? = some (l.getD i.toNat 0) := by
      have hsz : i.toNat < (ByteArray.mk l.toArray).size := by rw [size_mk]; exact hin
      have e1 : (ByteArray.mk l.toArray)[i.toNat] = l[i.toNat] := rfl
      rw [getElem?_pos (ByteArray.mk l.toArray) i.toNat hsz, e1, List.getD_eq_getElem?_getD, List.getElem?_eq_getElem hin]
      rfl
    simp only [Instr.index, asIntOf, Sem.run_bind, Sem.run_pure, Result.andThen_ok, run_underlying hu, if_pos h0, hget]
  · cases h
theorem extract_mk (l : List UInt8) (a b : Nat) : (ByteArray.mk l.toArray).extract a b = ByteArray.mk ((l.take b).drop a).toArray := by
  apply ByteArray.ext
  rw [ByteArray.data_extract]
  apply Array.ext'
  simp [List.extract_eq_take_drop, List.drop_take]
theorem boundV_sound {a : Act} {o : Option V} {vo : Option Value} {d n : Int} (hr : (o = none ∧ vo = none) ∨ ∃ l v, o = some l ∧ vo = some v ∧ VRelA P env S w a l v) (h : boundV o d = some n) : (vo = none ∧ n = d) ∨ ∃ k, vo = some (.int k n) := by
  rcases hr with ⟨rfl, rfl⟩ | ⟨l, v, rfl, rfl, hl⟩
  · exact .inl ⟨rfl, by simpa [boundV] using h.symm⟩
  · unfold boundV at h
    split at h
    · rename_i he; cases he
    · rename_i k m he
      simp only [Option.some.injEq] at he h
      subst he h
      exact .inr ⟨k, by rw [show v = .int k m from hl]⟩
    · cases h
theorem run_bounds {isS : Bool} {len cap : Nat} {vlo vhi : Option Value} {a b : Int} (hlo : (vlo = none ∧ a = 0) ∨ ∃ k, vlo = some (.int k a)) (hhi : (vhi = none ∧ b = len) ∨ ∃ k, vhi = some (.int k b)) (h0 : 0 ≤ a) (h1 : a ≤ b) (h2 : b ≤ len) (h3 : len ≤ cap) :
    (Instr.sliceBounds isS len cap vlo vhi none).run P w = .ok (a.toNat, b.toNat, cap) w := by
  have eb : (b.toNat : Int) = b := Int.toNat_of_nonneg (by omega)
  rcases hlo with ⟨rfl, rfl⟩ | ⟨k, rfl⟩ <;> rcases hhi with ⟨rfl, rfl⟩ | ⟨k', rfl⟩
  · simp [Instr.sliceBounds]
  · simp [Instr.sliceBounds, Instr.sliceBound, asIntOf, show 0 ≤ b by omega, show b ≤ (cap : Int) by omega]
  · simp [Instr.sliceBounds, Instr.sliceBound, asIntOf, h0, h1]
  · simp [Instr.sliceBounds, Instr.sliceBound, asIntOf, h0, show 0 ≤ b by omega, show b ≤ (cap : Int) by omega, eb, h1]
theorem sliceV_sound {ac : Act} {T : TypeId} {x y : V} {vx : Value} {lo hi : Option V} {vlo vhi : Option Value} (hx : VRel P env S w x vx)
    (hlo : (lo = none ∧ vlo = none) ∨ ∃ l v, lo = some l ∧ vlo = some v ∧ VRelA P env S w ac l v) (hhi : (hi = none ∧ vhi = none) ∨ ∃ l v, hi = some l ∧ vhi = some v ∧ VRelA P env S w ac l v) (h : sliceV P T x lo hi = some (true, y)) :
    ∃ v, (Instr.sliceAt T vx vlo vhi none).run P w = .ok v w ∧ VRel P env S w y v := by
  unfold sliceV at h
  split at h
  · rename_i l hu
    split at h
    · rename_i a b ha hb
      simp only [Option.some.injEq, Prod.mk.injEq, Bool.and_eq_true, decide_eq_true_eq] at h
      obtain ⟨⟨⟨h0, h1⟩, h2⟩, rfl⟩ := h
      have hv : vx = .string ⟨l.toArray⟩ := hx
      subst hv
      have hr := run_bounds (P := P) (w := w) (isS := false) (len := l.length) (cap := l.length) (boundV_sound hlo ha) (boundV_sound hhi hb) h0 h1 h2 (Nat.le_refl _)
      refine ⟨.string ⟨((l.take b.toNat).drop a.toNat).toArray⟩, ?_, rfl⟩
      simp only [Instr.sliceAt, Sem.run_bind, run_underlying hu, Result.andThen_ok, Instr.slice, Option.isSome_none, Bool.false_eq_true, if_false, Sem.run_pure, size_mk, hr, extract_mk]
    · cases h
  · rename_i e' e n xs hu
    cases he : Nat.beq e e' && tyB P e with
    | false => rw [he] at h; cases h
    | true =>
      rw [he] at h
      simp only [Bool.and_eq_true] at he
      obtain ⟨he, hty⟩ := he
      have := Nat.eq_of_beq_eq_true he
      subst this
      simp only [cond_true] at h
      split at h
      · rename_i a b ha hb
        simp only [Option.some.injEq, Prod.mk.injEq, Bool.and_eq_true, decide_eq_true_eq] at h
        obtain ⟨⟨⟨h0, h1⟩, h2⟩, rfl⟩ := h
        have hrep : RepD P w S (.sl e) (.l n xs) vx := hx
        have key : ∀ (ad : Option Addr) (cap : Nat), xs.length ≤ cap → (Instr.sliceAt T (.slice ad xs.length cap) vlo vhi none).run P w = .ok (.slice (if cap = a.toNat then ad else ad.map (·.add (a.toNat * sizeB P e))) (b.toNat - a.toNat) (cap - a.toNat)) w := by
          intro ad cap hcap
          have hr := run_bounds (P := P) (w := w) (isS := true) (len := xs.length) (cap := cap) (boundV_sound hlo ha) (boundV_sound hhi hb) h0 h1 h2 hcap
          simp only [Instr.sliceAt, Sem.run_bind, run_underlying hu, Result.andThen_ok, Instr.slice, hr, run_sizeOf hty, Sem.run_pure]
        cases hrep with
        | nil e d a1 a2 =>
          have : xs = [] := a2
          subst this
          have : n = true := a1
          subst this
          simp only [List.length_nil, Int.natCast_zero] at h2
          have hb0 : b = 0 := by omega
          have ha0 : a = 0 := by omega
          subst hb0 ha0
          have := key none 0 (by simp)
          refine ⟨_, this, ?_⟩
          simp only [Int.toNat_zero, if_true, Nat.sub_self, List.take_zero, List.drop_zero]
          exact RepD.nil e _ rfl rfl
        | emp e d ad cap a1 a2 am =>
          have : xs = [] := a2
          subst this
          have : n = false := a1
          subst this
          simp only [List.length_nil, Int.natCast_zero] at h2
          have hb0 : b = 0 := by omega
          have ha0 : a = 0 := by omega
          subst hb0 ha0
          have := key (some ad) cap (by simp)
          refine ⟨_, this, ?_⟩
          simp only [Int.toNat_zero, Nat.sub_zero, Nat.zero_mul, List.take_zero, List.drop_zero, Option.map_some, Addr.add, if_true, ite_self]
          exact RepD.emp e _ ad cap rfl rfl am
        | sl e d bk off cap cv a1 a2 a3 am a4 a5 =>
          have hn : n = false := a1
          subst hn
          have hc : xs.length ≤ cap := a3
          refine ⟨_, key _ cap hc, ?_⟩
          have hbl : b.toNat ≤ xs.length := by omega
          have hab : a.toNat ≤ b.toNat := by omega
          have hlen : ((xs.take b.toNat).drop a.toNat).length = b.toNat - a.toNat := by simp; omega
          by_cases hca : cap = a.toNat
          · have hz : b.toNat - a.toNat = 0 := by omega
            have hnil : (xs.take b.toNat).drop a.toNat = [] := List.eq_nil_of_length_eq_zero (by omega)
            rw [if_pos hca, hz, hnil]
            exact .sl e (.l false []) bk off (cap - a.toNat) (fun _ _ => undef) rfl a2 (Nat.zero_le _) (by omega) (fun i hi => by simp [D.items] at hi) (fun i hi => by simp [D.items] at hi)
          · rw [if_neg hca, ← hlen]
            simp only [Option.map_some, Addr.add_lit]
            refine .sl e (.l false ((xs.take b.toNat).drop a.toNat)) bk (off + a.toNat * sizeB P e) (cap - a.toNat) (fun i j => cv (a.toNat + i) j) rfl a2 (by show _ ≤ _; simp only [D.items]; omega) (by omega) ?_ ?_
            · intro i hi j hj
              simp only [D.items, hlen] at hi
              have := a4 (a.toNat + i) (by show _ < xs.length; omega) j hj
              rwa [show off + (a.toNat + i) * sizeB P e + j = off + a.toNat * sizeB P e + i * sizeB P e + j by rw [Nat.add_mul]; omega] at this
            · intro i hi j k hk
              simp only [D.items, hlen] at hi
              have := a5 (a.toNat + i) (by show _ < xs.length; omega) j k hk
              have e1 : (D.l false ((xs.take b.toNat).drop a.toNat)).items.getD i (.i 0) = (D.l false xs).items.getD (a.toNat + i) (.i 0) := by
                simp only [D.items, List.getD_eq_getElem?_getD, List.getElem?_drop, List.getElem?_take]
                rw [if_pos (by omega)]
              rw [e1]
              exact this
      · cases h
  · cases h
theorem lenV_sound (hob : ∀ key o, get mem key = some o → ObjRel P env S w (env key) o) {a : Act} {T ty : TypeId} {x : V} {vx : Value} {n : Int} (hx : VRelA P env S w a x vx) (h : lenV P mem T x = some n) :
    (Builtin.len_ #[T] ty #[vx]).run P w = .ok (.int .i64 n) w := by
  unfold lenV at h
  split at h
  · rename_i l hu
    simp only [Option.some.injEq] at h
    have hv : vx = .string ⟨l.toArray⟩ := hx
    subst h hv
    simp [Builtin.len_, run_underlying hu, size_mk, goInt]
  · rename_i e xs nl hu
    simp only [Option.some.injEq] at h
    subst h
    have hr : RepD P w S (.sl _) (.l _ _) vx := hx
    cases hr with
    | nil e d a1 a2 => have : nl = [] := a2; subst this; simp [Builtin.len_, run_underlying hu, goInt]
    | emp e d ad cap a1 a2 => have : nl = [] := a2; subst this; simp [Builtin.len_, run_underlying hu, goInt]
    | sl e d b off cap cv a1 => simp [Builtin.len_, run_underlying hu, goInt, D.items]
  · rename_i hu
    simp only [Option.some.injEq] at h
    have hv : vx = .slice none 0 0 := hx
    subst h hv
    simp [Builtin.len_, run_underlying hu, goInt]
  · rename_i key hu
    split at h
    · rename_i e ex nl xs hg
      simp only [Option.some.injEq] at h
      have hv : vx = (env key).hdr := hx
      subst h hv
      obtain ⟨_, ⟨_, rfl, h1⟩ | ⟨_, _, cap, cur, h1, _⟩⟩ := hob _ _ hg <;> rw [h1] <;> simp [Builtin.len_, run_underlying hu, goInt]
    · cases h
  · rename_i key hu
    split at h
    · rename_i kt vt es hg
      simp only [Option.some.injEq] at h
      have hv : vx = .map (some (env key).blk) := hx
      subst h hv
      obtain ⟨ents, clock, h1, h2⟩ := hob _ _ hg
      have hl := h2.length
      have hget : (getObj (env key).blk).run P w = .ok (.map ents clock) w := by unfold getObj; simp only [Sem.run, h1]
      simp only [Array.length_toList] at hl
      simp [Builtin.len_, run_underlying hu, goInt, hget, hl]
    · cases h
  · rename_i hu
    simp only [Option.some.injEq] at h
    subst h
    simp [Builtin.len_, run_underlying hu, goInt]
  · cases h
theorem foldI_sound {a : Act} {op : Int → Int → Int} {f : Value → Value → Sem Value} (hf : ∀ k x y, f (.int k x) (.int k y) = pure (.int k (op x y))) {k : IntKind} : ∀ {xs : List V} {vs : List Value} {x : Int} {y : V}, All2 (VRelA P env S w a) xs vs → foldI op k x xs = some y →
    ∃ v, (vs.foldlM f (.int k x)).run P w = .ok v w ∧ VRel P env S w y v
  | [], vs, x, y, hr, h => by
    cases vs with
    | nil => simp only [foldI, Option.some.injEq] at h; subst h; exact ⟨_, rfl, rfl⟩
    | cons => exact hr.elim
  | z :: xs, vs, x, y, hr, h => by
    cases vs with
    | nil => exact hr.elim
    | cons u vs =>
      unfold foldI at h
      split at h
      · rename_i he; cases he
      · rename_i k' b r he
        simp only [List.cons.injEq] at he
        obtain ⟨rfl, rfl⟩ := he
        cases hk : k == k' with
        | false => rw [hk] at h; cases h
        | true =>
          rw [hk] at h
          have := eq_of_beq hk
          subst this
          simp only [cond_true] at h
          have hu : u = .int k b := hr.1
          subst hu
          simp only [List.foldlM_cons, hf, Sem.run_bind, Sem.run_pure, Result.andThen_ok]
          exact foldI_sound hf hr.2 h
      · cases h
end
end Go.AM
