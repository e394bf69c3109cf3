/- The abstract machine: append. -/
import Derived.Test.YtefmjfcdgadggaaAm18
set_option linter.all false
namespace Go.AM
open Go

section
variable {P : Program} {N n0 kb : Nat} {F : Nat → Prop} {B M0 : Stab} {w0 : World} {e0 env : Env} {st : St} {a : Act} {w : World}
theorem repD_one {S : Stab} {k : CK} {d : D} {u : Value} (h : RepD P w S k d u) : u.oneCell' = true := by cases h <;> rfl
/-- What is appended: nothing, or cells in a row. -/
structure Src (P : Program) (w : World) (S : Stab) (e : TypeId) (ys : List D) (vx : Value) : Prop where
  src : (∃ (ao : Option Addr) (c : Nat), vx = .slice ao 0 c ∧ ys = []) ∨ ∃ b o c, vx = .slice (some ⟨b, o, none⟩) ys.length c ∧
    ∀ (i j : Nat) (k : CK), i < ys.length → (kinds P e)[j]? = some k → ∃ u, w.cell? ⟨b, o + (i * sizeB P e + j), none⟩ = some u ∧ RepD P w S k (elD P e (ys.getD i (.i 0)) j) u
theorem srcD_sound (h : Rel P N n0 B M0 w0 F e0 env st a w) {e : TypeId} {x : V} {vx : Value} {ys : List D} (hx : VRel P env (Sof P B M0 n0 env st.mem w) w x vx) (hs : srcD st.mem e x = some ys) : Src P w (Sof P B M0 n0 env st.mem w) e ys vx := by
  unfold srcD at hs
  split at hs
  · rename_i key
    split at hs
    · rename_i e' ex nl xs hg
      cases he : Nat.beq e e' with
      | false => rw [he] at hs; cases hs
      | true =>
        have := Nat.eq_of_beq_eq_true he
        subst this
        rw [he] at hs
        simp only [cond_true, Option.some.injEq] at hs
        subst hs
        have hv : vx = (env key).hdr := hx
        obtain ⟨h0, ⟨_, rfl, h1⟩ | ⟨_, _, cap, cur, h1, h2, h3, h4, h5, h6⟩⟩ := h.ob _ _ hg
        · exact ⟨.inl ⟨none, 0, by rw [hv, h1], rfl⟩⟩
        · refine ⟨.inr ⟨(env key).blk, 0, cap, by rw [hv, h1], fun i j k hi hk => ?_⟩⟩
          obtain ⟨u, hu, hr⟩ := h6 i j k hi hk
          exact ⟨u, by rw [Nat.zero_add]; exact cell_of h2 hu, hr⟩
    · cases hs
  · rename_i e' nl xs
    cases he : Nat.beq e e' with
    | false => rw [he] at hs; cases hs
    | true =>
      have := Nat.eq_of_beq_eq_true he
      subst this
      rw [he] at hs
      simp only [cond_true, Option.some.injEq] at hs
      subst hs
      have hr : RepD P w (Sof P B M0 n0 env st.mem w) (.sl e) (.l nl xs) vx := hx
      cases hr with
      | nil e d a1 a2 => exact ⟨.inl ⟨none, 0, rfl, a2⟩⟩
      | emp e d ad cap a1 a2 am => exact ⟨.inl ⟨some ad, cap, rfl, a2⟩⟩
      | sl e d b off cap cv a1 a2 a3 am a4 a5 =>
        refine ⟨.inr ⟨b, off, cap, rfl, fun i j k hi hk => ?_⟩⟩
        have hj : j < (kinds P e).length := (List.getElem?_eq_some_iff.1 hk).1
        refine ⟨cv i j, ?_, a5 i hi j k hk⟩
        rw [← Nat.add_assoc]
        exact (a4 i hi j hj).2
  · simp only [Option.some.injEq] at hs
    subst hs
    have hv : vx = .slice none 0 0 := hx
    exact ⟨.inl ⟨none, 0, hv, rfl⟩⟩
  · cases hs
/-- The cells of what is appended. -/
theorem src_news {S : Stab} {e : TypeId} {ys : List D} {b o : Nat} (hs : sizeB P e = (kinds P e).length) (hpos : 0 < sizeB P e)
    (h : ∀ (i j : Nat) (k : CK), i < ys.length → (kinds P e)[j]? = some k → ∃ u, w.cell? ⟨b, o + (i * sizeB P e + j), none⟩ = some u ∧ RepD P w S k (elD P e (ys.getD i (.i 0)) j) u) :
    ∃ news : List Value, news.length = ys.length * sizeB P e ∧ (∀ j u, news[j]? = some u → w.cell? ((⟨b, o, none⟩ : Addr).add j) = some u) ∧ (∀ u ∈ news, u.oneCell' = true) ∧
      ∀ (i j : Nat) (k : CK), i < ys.length → (kinds P e)[j]? = some k → ∃ u, news[i * sizeB P e + j]? = some u ∧ RepD P w S k (elD P e (ys.getD i (.i 0)) j) u := by
  have hq : ∀ q, q < ys.length * sizeB P e → ∃ u k i j, w.cell? ⟨b, o + q, none⟩ = some u ∧ RepD P w S k (elD P e (ys.getD i (.i 0)) j) u := by
    intro q hq
    have hi : q / sizeB P e < ys.length := Nat.div_lt_of_lt_mul (by rw [Nat.mul_comm]; exact hq)
    have hj : q % sizeB P e < (kinds P e).length := by rw [← hs]; exact Nat.mod_lt _ hpos
    obtain ⟨u, hu, hr⟩ := h (q / sizeB P e) (q % sizeB P e) _ hi (List.getElem?_eq_getElem hj)
    refine ⟨u, _, _, _, ?_, hr⟩
    have : q / sizeB P e * sizeB P e + q % sizeB P e = q := by rw [Nat.mul_comm]; exact Nat.div_add_mod q _
    rw [this] at hu
    exact hu
  have hget : ∀ q, ((List.range (ys.length * sizeB P e)).map fun q => (w.cell? ⟨b, o + q, none⟩).getD undef)[q]? = if q < ys.length * sizeB P e then some ((w.cell? ⟨b, o + q, none⟩).getD undef) else none := by
    intro q
    rw [List.getElem?_map]
    by_cases hlt : q < ys.length * sizeB P e
    · rw [List.getElem?_range hlt, if_pos hlt]; rfl
    · rw [List.getElem?_eq_none (by simpa using hlt), if_neg hlt]; rfl
  refine ⟨(List.range (ys.length * sizeB P e)).map fun q => (w.cell? ⟨b, o + q, none⟩).getD undef, by simp, ?_, ?_, ?_⟩
  · intro j u hu
    rw [hget] at hu
    split at hu
    · rename_i hlt
      obtain ⟨u', k, i, j', hc, _⟩ := hq j hlt
      rw [Addr.add_lit, hc]
      rw [hc] at hu
      exact hu
    · cases hu
  · intro u hu
    obtain ⟨j, hj⟩ := List.getElem?_of_mem hu
    rw [hget] at hj
    split at hj
    · rename_i hlt
      obtain ⟨u', k, i, j', hc, hr⟩ := hq j hlt
      rw [hc] at hj
      simp only [Option.getD_some, Option.some.injEq] at hj
      subst hj
      exact repD_one hr
    · cases hj
  · intro i j k hi hk
    obtain ⟨u, hu, hr⟩ := h i j k hi hk
    have hj : j < (kinds P e).length := (List.getElem?_eq_some_iff.1 hk).1
    refine ⟨u, ?_, hr⟩
    rw [hget, if_pos (mul_lt hi (by omega)), hu]
    rfl
theorem rowCells_append {S : Stab} {e : TypeId} {xs ys : List D} {cur : Array Value} {olds news : List Value}
    (ho : ∀ (i j : Nat) (k : CK), i < xs.length → (kinds P e)[j]? = some k → ∃ u, olds[i * sizeB P e + j]? = some u ∧ RepD P w S k (elD P e (xs.getD i (.i 0)) j) u) (hol : olds.length = xs.length * sizeB P e)
    (hn : ∀ (i j : Nat) (k : CK), i < ys.length → (kinds P e)[j]? = some k → ∃ u, news[i * sizeB P e + j]? = some u ∧ RepD P w S k (elD P e (ys.getD i (.i 0)) j) u) (hnl : news.length = ys.length * sizeB P e)
    (hcur : ∀ q, q < olds.length + news.length → cur[q]? = (olds ++ news)[q]?) : RowCells P w S e (xs ++ ys) cur := by
  intro i j k hi hk
  rw [List.length_append] at hi
  have hj : j < (kinds P e).length := (List.getElem?_eq_some_iff.1 hk).1
  by_cases hix : i < xs.length
  · obtain ⟨u, hu, hr⟩ := ho i j k hix hk
    have hlt : i * sizeB P e + j < olds.length := (List.getElem?_eq_some_iff.1 hu).1
    refine ⟨u, ?_, ?_⟩
    · rw [hcur _ (by omega), List.getElem?_append_left hlt]; exact hu
    · rw [List.getD_eq_getElem?_getD, List.getElem?_append_left hix, ← List.getD_eq_getElem?_getD]; exact hr
  · obtain ⟨u, hu, hr⟩ := hn (i - xs.length) j k (by omega) hk
    have hlt : (i - xs.length) * sizeB P e + j < news.length := (List.getElem?_eq_some_iff.1 hu).1
    have he : i * sizeB P e = xs.length * sizeB P e + (i - xs.length) * sizeB P e := by rw [← Nat.add_mul]; congr 1; omega
    refine ⟨u, ?_, ?_⟩
    · rw [hcur _ (by omega), List.getElem?_append_right (by omega), ← hu]; congr 1; omega
    · rw [List.getD_eq_getElem?_getD, List.getElem?_append_right (by omega), ← List.getD_eq_getElem?_getD]; exact hr
/-- A nil row under a key. -/
theorem rel_nilRow (h : Rel P N n0 B M0 w0 F e0 env st a w) {mem0 : AL Obj} (hsub : ∀ k ob, get mem0 k = some ob → get st.mem k = some ob) (key : Nat) (hkey : ¬ F key) {e : TypeId} {ex : Bool} (hs : sizeB P e = (kinds P e).length) :
    Rel P N n0 B M0 w0 F e0 (upd env key ⟨0, 0, none⟩) (fresh key (.row e ex true []) { st with mem := mem0 }) a w :=
  Rel.new h hsub key hkey _ _ (fun _ _ => False) (Chg.refl _ w) (fun _ _ hf => hf.elim) (fun _ _ _ _ _ => rfl) (fun _ => ⟨hs, .inl ⟨rfl, rfl, rfl⟩⟩) (fun b x hm => by cases hm.1) (fun hr => by cases hr) (fun e ex xs he => by cases he)
theorem drewpush_old {w : World} {o : Go.Obj} {b : Nat} (h : b < w.heap.size) : (w.drew.alloc o).heap[b]? = w.heap[b]? := by
  show (w.heap.push o)[b]? = _
  rw [Array.getElem?_push, if_neg (by omega)]
theorem chg_drewpush (w : World) (o : Go.Obj) : Chg (fun _ _ => False) w (w.drew.alloc o) :=
  ⟨rfl, rfl, rfl, by simp, fun b cur T fr h => ⟨cur, by rw [drewpush_old (Array.getElem?_eq_some_iff.1 h).1]; exact h, rfl, fun _ _ => rfl⟩,
    fun b ob h _ => by rw [drewpush_old (Array.getElem?_eq_some_iff.1 h).1]; exact h⟩
theorem append_nil_sound (h : Rel P N n0 B M0 w0 F e0 env st a w) {mem0 : AL Obj} (hsub : ∀ k ob, get mem0 k = some ob → get st.mem k = some ob) {T ty el : TypeId} (hel : elemOfSlice P T = some el) {z : Value} {i : TypeInfo} (hi : P.info? el = some i) (hz : i.zero = some z) (hzs : z.cells.size = (kinds P el).length)
    {ys : List D} {vx : Value} (hsrc : Src P w (Sof P B M0 n0 env st.mem w) el ys vx) (hroom : ys.length * bytesB P el ≤ room) (hmax : ys.length ≤ strMax) (key : Nat) (hkey : ¬ F key) (ex : Bool) :
    ∃ v w' env', (Builtin.append_ #[T, T] ty #[.slice none 0 0, vx]).run P w = .ok v w' ∧ Rel P N n0 B M0 w0 F e0 env' (fresh key (.row el ex ys.isEmpty ys) { st with mem := mem0 }) a w' ∧ v = (env' key).hdr := by
  obtain ⟨hu, hs, hty, hpos⟩ := elemOfSlice_some hel
  have hsz : i.size = sizeB P el := by simp [sizeB, hi]
  have hby : i.bytes = bytesB P el := by simp [bytesB, hi]
  have hn0 : ∃ v w' env', v = .slice none 0 0 ∧ w' = w ∧ Rel P N n0 B M0 w0 F e0 env' (fresh key (.row el ex true []) { st with mem := mem0 }) a w' ∧ v = (env' key).hdr :=
    ⟨_, _, _, rfl, rfl, rel_nilRow h hsub key hkey hs, by simp [upd, Slot.hdr]⟩
  rcases hsrc.src with ⟨ao, c, rfl, rfl⟩ | ⟨b, o, c, rfl, hc⟩
  · obtain ⟨v, w', env', rfl, rfl, h1, h2⟩ := hn0
    refine ⟨_, _, env', ?_, h1, h2⟩
    cases ao <;> simp [Builtin.append_, run_underlying hu, sizeOf, typeInfo, hi, Builtin.lenOf, Builtin.firstCells, loadCells, loadCellsFrom]
  · cases hys : ys with
    | nil =>
      subst hys
      obtain ⟨v, w', env', rfl, rfl, h1, h2⟩ := hn0
      refine ⟨_, _, env', ?_, h1, h2⟩
      simp [Builtin.append_, run_underlying hu, sizeOf, typeInfo, hi, Builtin.lenOf, Builtin.firstCells, loadCells, loadCellsFrom]
    | cons y ys' =>
      rw [← hys]
      have hne : 0 < ys.length := by rw [hys]; simp
      obtain ⟨news, q1, q2, q3, q4⟩ := src_news hs hpos hc
      have hrun := run_append_nil (P := P) w T ty el i z hu hi hz ⟨b, o, none⟩ ys.length c news (by rw [q1, hsz]) q2 hne (by unfold strMax at hmax; omega) (by rw [hby]; unfold room at hroom; omega)
      have hcap := grownCap_ge w ys.length 0 el
      have hcm := grownCap_le_maxLen w ys.length 0 el (by unfold strMax at hmax; unfold maxLen; omega)
      refine ⟨_, _, upd env key ⟨w.heap.size, 0, some (ys.length, grownCap w ys.length 0 el)⟩, hrun, ?_, by simp [upd, Slot.hdr]⟩
      have hemp : ys.isEmpty = false := by rw [hys]; rfl
      rw [hemp]
      refine rel_newRow h hsub key hkey (chg_drewpush w _) rfl hs hcap hcm ?_ ?_
      · simp only [Array.size_append, List.size_toArray, size_zeroCells, hzs, ← hs, q1, ← Nat.add_mul]; congr 1; omega
      · have := rowCells_append (xs := []) (olds := []) (cur := news.toArray ++ Builtin.zeroCells z.cells (grownCap w ys.length 0 el - ys.length)) (fun i j k hi => by simp at hi) (by simp) q4 q1 (by
          intro q hq
          simp only [List.nil_append, List.length_nil, Nat.zero_add] at hq ⊢
          rw [Array.getElem?_append_left (by simpa using hq)]
          simp)
        simpa using this
theorem get_del_sub {mem : AL Obj} {key : Nat} : ∀ k ob, get (del mem key) k = some ob → k ≠ key ∧ get mem k = some ob := by
  intro k ob hg
  rw [get_del] at hg
  by_cases hk : k = key
  · rw [if_pos hk] at hg; cases hg
  · rw [if_neg hk] at hg; exact ⟨hk, hg⟩
theorem append_row_sound (h : Rel P N n0 B M0 w0 F e0 env st a w) {key0 : Nat} {T ty el : TypeId} (hel : elemOfSlice P T = some el) {ex : Bool} {xs : List D} (hg : get st.mem key0 = some (.row el ex false xs)) {z : Value} {i : TypeInfo} (hi : P.info? el = some i) (hz : i.zero = some z) (hzs : z.cells.size = (kinds P el).length)
    {ys : List D} {vx : Value} (hsrc : Src P w (Sof P B M0 n0 env st.mem w) el ys vx) (hroom : (xs.length + ys.length) * bytesB P el ≤ room) (hmax : xs.length + ys.length ≤ strMax) (key : Nat) (hkey : ¬ F key) :
    ∃ v w' env', (Builtin.append_ #[T, T] ty #[(env key0).hdr, vx]).run P w = .ok v w' ∧ Rel P N n0 B M0 w0 F e0 env' (fresh key (.row el ex false (xs ++ ys)) { st with mem := del st.mem key0 }) a w' ∧ v = (env' key).hdr := by
  obtain ⟨hu, hs, hty, hpos⟩ := elemOfSlice_some hel
  have hsz : i.size = sizeB P el := by simp [sizeB, hi]
  have hby : i.bytes = bytesB P el := by simp [bytesB, hi]
  obtain ⟨_, ⟨hn, _⟩ | ⟨_, hb0, cap, cur, h1, h2, h3, h4, h5, h6⟩⟩ := h.ob _ _ hg
  · cases hn
  · have hsub : ∀ k ob, get (del st.mem key0) k = some ob → get st.mem k = some ob := fun k ob hk => (get_del_sub k ob hk).2
    have holdl : (cur.toList.take (xs.length * sizeB P el)).length = xs.length * sizeB P el := by
      have := Nat.mul_le_mul_right (sizeB P el) h3
      have hcl : cur.toList.length = cap * sizeB P el := by simpa using h5
      rw [List.length_take]
      omega
    have holds : ∀ (i j : Nat) (k : CK), i < xs.length → (kinds P el)[j]? = some k → ∃ u, (cur.toList.take (xs.length * sizeB P el))[i * sizeB P el + j]? = some u ∧ RepD P w (Sof P B M0 n0 env st.mem w) k (elD P el (xs.getD i (.i 0)) j) u := by
      intro i j k hi hk
      obtain ⟨u, hu, hr⟩ := h6 i j k hi hk
      have hj : j < (kinds P el).length := (List.getElem?_eq_some_iff.1 hk).1
      refine ⟨u, ?_, hr⟩
      rw [List.getElem?_take, if_pos (mul_lt hi (by omega))]
      simpa using hu
    -- the row stays where it is
    have stay : ∀ (news : List Value), news.length = ys.length * sizeB P el → (∀ (i j : Nat) (k : CK), i < ys.length → (kinds P el)[j]? = some k → ∃ u, news[i * sizeB P el + j]? = some u ∧ RepD P w (Sof P B M0 n0 env st.mem w) k (elD P el (ys.getD i (.i 0)) j) u) → xs.length + ys.length ≤ cap →
        Rel P N n0 B M0 w0 F e0 (upd env key ⟨(env key0).blk, 0, some (xs.length + ys.length, cap)⟩) (fresh key (.row el ex false (xs ++ ys)) { st with mem := del st.mem key0 }) a
          (w.setRow (env key0).blk (cur.toList.take (xs.length * sizeB P el) ++ news ++ cur.toList.drop (xs.length * sizeB P el + news.length)).toArray) := by
      intro news hnl hnews hcap
      have hfit : xs.length * sizeB P el + news.length ≤ cur.size := by rw [hnl, ← Nat.add_mul, h5]; exact Nat.mul_le_mul_right _ hcap
      have hmut0 : ∀ x, xs.length * sizeB P el ≤ x → MutO P (env key0) (.row el ex false xs) (env key0).blk x := fun x hx => ⟨rfl, rfl, .inr hx⟩
      refine Rel.new h hsub key hkey _ _ (fun b x => b = (env key0).blk ∧ xs.length * sizeB P el ≤ x ∧ x < xs.length * sizeB P el + news.length) ?_ ?_ ?_ ?_ ?_ ?_ ?_
      · refine chg_setRow h2 (by simp; omega) fun x hx => ?_
        rw [seg_array hfit, if_neg (fun hc => hx ⟨rfl, hc⟩)]
      · rintro b x ⟨rfl, hx, _⟩; exact ⟨key0, _, hg, hmut0 x hx⟩
      · intro k ob _ hk hr
        obtain ⟨hk1, hk2⟩ := get_del_sub k ob hk
        exact setRow_other _ _ _ _ (h.ds k key0 ob _ hk2 hg hr rfl hk1)
      · intro hk
        refine ⟨hs, .inr ⟨rfl, rfl, cap, _, by simp [Slot.hdr], setRow_heap w _ cur _ el _ h2, by simpa using hcap, h4, by rw [← h5]; simp; omega, ?_⟩⟩
        have hrc : RowCells P w (Sof P B M0 n0 env st.mem w) el (xs ++ ys) (cur.toList.take (xs.length * sizeB P el) ++ news ++ cur.toList.drop (xs.length * sizeB P el + news.length)).toArray :=
          rowCells_append holds holdl hnews hnl fun q hq => by
            rw [List.getElem?_toArray, List.getElem?_append_left (by simpa using hq)]
        exact hrc.mono hk
      · intro b x hm
        obtain ⟨_, rfl, hm⟩ := hm
        refine .inr ⟨key0, _, hg, rfl, rfl, ?_⟩
        rcases hm with hm | hm
        · exact .inl hm
        · refine .inr ?_
          rw [List.length_append, Nat.add_mul] at hm
          omega
      · intro _ k ob _ hk hr
        obtain ⟨hk1, hk2⟩ := get_del_sub k ob hk
        exact h.ds k key0 ob _ hk2 hg hr rfl hk1
      · intro e' ex' xs' he x hx
        simp only [Obj.row.injEq] at he
        obtain ⟨rfl, _, _, rfl⟩ := he
        by_cases hlt : x < xs.length * sizeB P el
        · exact h.pr key0 el ex xs hg x hlt
        · rcases h.mu key0 _ _ x hg (hmut0 x (by omega)) with h7 | h7
          · exact .inr (.inr h7)
          · exact .inr (.inl h7)
    rcases hsrc.src with ⟨ao, c, rfl, rfl⟩ | ⟨b, o, c, rfl, hc⟩
    · have hst := stay [] (by simp) (fun i j k hi => by simp at hi) (by simpa using h3)
      have hself : w.setRow (env key0).blk (cur.toList.take (xs.length * sizeB P el) ++ [] ++ cur.toList.drop (xs.length * sizeB P el + ([] : List Value).length)).toArray = w := by
        have : (cur.toList.take (xs.length * sizeB P el) ++ [] ++ cur.toList.drop (xs.length * sizeB P el + ([] : List Value).length)).toArray = cur := by simp
        rw [this]
        exact setRow_self w _ cur el (0, 0) h2
      rw [hself] at hst
      refine ⟨(env key0).hdr, w, _, ?_, hst, by rw [h1]; simp [upd, Slot.hdr]⟩
      rw [h1]
      cases ao <;> simp [Builtin.append_, run_underlying hu, sizeOf, typeInfo, hi, Builtin.lenOf, Builtin.firstCells, h3, storeCells, loadCells, loadCellsFrom]
    · obtain ⟨news, q1, q2, q3, q4⟩ := src_news hs hpos hc
      by_cases hfitc : xs.length + ys.length ≤ cap
      · have hrun := run_append_room (P := P) w T ty el i hu hi (env key0).blk xs.length cap cur h2 ⟨b, o, none⟩ ys.length c news (by rw [q1, hsz]) q2 q3 hfitc (by rw [hsz, q1, ← Nat.add_mul, h5]; exact Nat.mul_le_mul_right _ hfitc)
        rw [hsz] at hrun
        refine ⟨_, _, _, by rw [h1]; exact hrun, stay news q1 q4 hfitc, by simp [upd, Slot.hdr]⟩
      · have hrun := run_append_grow (P := P) w T ty el i z hu hi hz ⟨(env key0).blk, 0, none⟩ xs.length cap (cur.toList.take (xs.length * sizeB P el)) (by rw [holdl, hsz]) (fun j v hv => by
            rw [Addr.add_lit, Nat.zero_add]
            rw [List.getElem?_take] at hv
            split at hv
            · exact cell_of h2 (by simpa using hv)
            · cases hv) ⟨b, o, none⟩ ys.length c news (by rw [q1, hsz]) q2 (by omega) (by unfold strMax at hmax; omega) (growslice_fits (by omega) (by rw [hby]; exact hroom))
        have hcap := grownCap_ge w (xs.length + ys.length) cap el
        have hcm := grownCap_le_maxLen w (xs.length + ys.length) cap el (by unfold strMax at hmax; unfold maxLen; omega)
        refine ⟨_, _, upd env key ⟨w.heap.size, 0, some ((xs ++ ys).length, grownCap w (xs.length + ys.length) cap el)⟩, by rw [h1]; exact hrun, ?_, by simp [upd, Slot.hdr]⟩
        refine rel_newRow h hsub key hkey (chg_drewpush w _) rfl hs (by simpa using hcap) hcm ?_ ?_
        · simp only [Array.size_append, List.size_toArray, size_zeroCells, hzs, ← hs, q1, holdl, ← Nat.add_mul]; congr 1; omega
        · refine rowCells_append holds holdl q4 q1 fun q hq => ?_
          rw [Array.getElem?_append_left (by simpa using hq)]
          simp [Array.getElem?_append, List.getElem?_append]
end
end Go.AM
