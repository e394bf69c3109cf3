/- Proved: told() of chapter 10 returns true, reckoned by the machine at its constants. -/
import Derived.Test.YtngnemeafkmaoaaGreatAm3
import Derived.Test.YtngnemeafkmaoaaGreatChecked
import Derived.KernelRfl
set_option linter.all false
set_option maxRecDepth 100000
namespace Go.AM
open Go
def tow (P : Program) (hb : Book) (base : Oracle) : Nat → Oracle
 | 0 => base
 | n + 1 => fun f args mem => match base f args mem with
  | some a => some a
  | none => (body P (tow P hb base n) (hb f) n f args mem).map fun r => [(true, r)]
theorem tow_ok {P : Program} {base : Oracle} (hP : ProgOk P) (hb : Book) (hlos : ∀ f, (hb f).los = []) (hbase : OracleOk P base) : ∀ n, OracleOk P (tow P hb base n)
 | 0 => hbase
 | n + 1 => by
  have ih := tow_ok hP hb hlos hbase n
  intro f args mem alts h
  unfold tow at h
  cases hbs : base f args mem with
  | some a =>
   rw [hbs] at h
   simp only [Option.some.injEq] at h
   subst h
   exact hbase f args mem a hbs
  | none =>
   rw [hbs] at h
   cases hb' : body P (tow P hb base n) (hb f) n f args mem with
   | none => rw [hb'] at h; cases h
   | some r =>
    rw [hb'] at h
    simp only [Option.map_some, Option.some.injEq] at h
    subst h
    have hal : AllCuts P (hb f).los mem.length f := by rw [hlos]; exact AllCuts.nil
    refine ⟨(body_sound hP ih (drawSound hP.mixed ih) hal.loops hb').2, fun res hr => ?_⟩
    have hr : some r = some res := hr
    simp only [Option.some.injEq] at hr
    subst hr
    exact callOk_of hP ih hal rfl hb'
def evA {α : Type} (o : Option α) : List (Bool × α) := match o with | some x => [(true, x)] | none => []
theorem evA_law {α : Type} {o : Option α} {x : α} (h : altK (evA o) some = some x) : o = some x := by
 unfold evA at h
 cases o with
 | none => cases h
 | some y => exact h
end Go.AM

set_option linter.unusedVariables false
set_option linter.unusedSimpArgs false
set_option maxRecDepth 100000
namespace Go.Proofs.YtngnemeafkmaoaaGreat
open Go Go.AM
theorem progOk : ProgOk Tryz.prog := progOk_of (by kernel_rfl)
noncomputable def lkC : Code := piece Tryz.prog 186 300000004
noncomputable def lkFst : Code → Code | .seq a _ => a | c => c
noncomputable def lkSnd : Code → Code | .seq _ b => b | c => c
noncomputable def lkIn : Code → Code | .block _ b => b | .loop b => b | .cond _ a _ => a | c => c
noncomputable def lkOps : Code → List Oper | .region _ ops _ => ops.toList | _ => []
noncomputable def lkR1 : List Oper := lkOps (lkFst lkC)
noncomputable def lkL : Code := lkIn (lkIn (lkSnd lkC))
noncomputable def lkR2 : List Oper := lkOps (lkFst lkL)
noncomputable def lkB : Code := lkIn (lkSnd (lkSnd lkL))
noncomputable def lkR3 : List Oper := lkOps (lkFst lkB)
noncomputable def lkT : Code := lkSnd lkB
theorem lkC_eq : lkC = .seq (.region 1 lkR1.toArray false) (.block 0 (.loop (.seq (.region 2 lkR2.toArray false) (.seq (.cond (.tmp 16) .skip (.exit 0)) (.block 1 (.seq (.region 3 lkR3.toArray false) lkT)))))) := by kernel_rfl
noncomputable def lk1 (i : Nat) : Oper := lkR1.getD i default
noncomputable def lk2 (i : Nat) : Oper := lkR2.getD i default
noncomputable def lk3 (i : Nat) : Oper := lkR3.getD i default
theorem lkR1_eq : lkR1 = [lk1 0, lk1 1, lk1 2, lk1 3, lk1 4, lk1 5, lk1 6, lk1 7, lk1 8] := by kernel_rfl
theorem lkR2_eq : lkR2 = [lk2 0, lk2 1] := by kernel_rfl
theorem lkR3_eq : lkR3 = [lk3 0, lk3 1, lk3 2, lk3 3, lk3 4] := by kernel_rfl
theorem lk10 : (lk1 0).op = .makeMap 269 none ∧ (lk1 0).dst = some 9 ∧ (lk1 0).guard = none := ⟨by kernel_rfl, by kernel_rfl, by kernel_rfl⟩
theorem lk12 : (lk1 2).op = .insert 269 (.tmp 9) (.const (.int .i64 1)) (.tmp 10) ∧ (lk1 2).dst = none ∧ (lk1 2).guard = none := ⟨by kernel_rfl, by kernel_rfl, by kernel_rfl⟩
theorem lk14 : (lk1 4).op = .insert 269 (.tmp 9) (.const (.int .i64 2)) (.tmp 11) ∧ (lk1 4).dst = none ∧ (lk1 4).guard = none := ⟨by kernel_rfl, by kernel_rfl, by kernel_rfl⟩
theorem lk16 : (lk1 6).op = .insert 269 (.tmp 9) (.const (.int .i64 3)) (.tmp 12) ∧ (lk1 6).dst = none ∧ (lk1 6).guard = none := ⟨by kernel_rfl, by kernel_rfl, by kernel_rfl⟩
theorem lk18 : (lk1 8).op = .range 269 (.tmp 13) ∧ (lk1 8).dst = some 14 ∧ (lk1 8).guard = none := ⟨by kernel_rfl, by kernel_rfl, by kernel_rfl⟩
theorem lk20 : (lk2 0).op = .next (.tmp 14) false ∧ (lk2 0).dst = some 15 ∧ (lk2 0).guard = none := ⟨by kernel_rfl, by kernel_rfl, by kernel_rfl⟩
theorem lk30 : (lk3 0).op = .entry (.tmp 14) ∧ (lk3 0).dst = some 17 ∧ (lk3 0).guard = none := ⟨by kernel_rfl, by kernel_rfl, by kernel_rfl⟩
theorem noG {l : List Oper} (h : (l.all fun o => o.guard.isNone) = true) {o : Oper} (ho : o ∈ l) : o.guard = none := Option.isNone_iff_eq_none.1 (List.all_eq_true.1 h o ho)
theorem lkG1 : (lkR1.all fun o => o.guard.isNone) = true := by kernel_rfl
theorem lkG2 : (lkR2.all fun o => o.guard.isNone) = true := by kernel_rfl
theorem lkG3 : (lkR3.all fun o => o.guard.isNone) = true := by kernel_rfl
theorem lkU : Tryz.prog.underlying 269 = some (.map 3 186) := by kernel_rfl
theorem lkU3 : Tryz.prog.underlying 3 = some (.int .i64) := by kernel_rfl
noncomputable def lkBoxes (L : List Lf) (p q s : Int) : AL AM.Obj := [(2, .box [.b (lb L 0), .b (lb L 1), .b (lb L 2), .b (lb L 3), .b (lb L 4), .sl 3 (lb L 5) (ll L 6), .b (lb L 7), .b (lb L 8)]),
 (3, .box [.i .i64 (li L 9), .i .i64 (li L 10), .i .i64 (li L 11), .i .i64 (li L 12), .i .i64 p, .i .i64 q, .i .i64 s]),
 (4, .box [.i .i64 (li L 16), .i .i64 (li L 17), .i .i64 (li L 18), .i .i64 (li L 19), .i .i64 (li L 20), .i .i64 (li L 21), .i .i64 (li L 22)])]
noncomputable def lkTm : AL V := [(2, .c (.p 2 0)), (3, .c (.p 3 0)), (4, .c (.p 4 0))]
noncomputable def shLook : Sh := { tmps := [(2, .c (.p 2 0)), (3, .c (.p 3 0)), (4, .c (.p 4 0))], mem := [(2, .box (rB 5 ([.sl 3, .b, .b]))), (3, .box (rI 7 ([]))), (4, .box (rI 7 ([])))] }
theorem shLook_eq (L : List Lf) : ofSh shLook L = ⟨lkTm, lkBoxes L (li L 13) (li L 14) (li L 15)⟩ := by kernel_rfl
noncomputable def mis (f : Bool) (x : Int) : Int := bif f then -1 else x
noncomputable def ALook (L : List Lf) : List (Bool × (Ex × St)) := [(true, (.normal, ⟨lkTm, lkBoxes L (mis (lb L 1) (li L 13)) (mis (lb L 2) (li L 14)) (mis (lb L 3) (li L 15))⟩))]
noncomputable def cl0 : Oracle := fun _ _ _ => none
noncomputable def lkSt (L : List Lf) (p q s : Int) (rb : Nat) : St := ⟨lkTm ++ [(14, .c (.v (.pointer (some ⟨rb, 0, none⟩))))], lkBoxes L p q s⟩
noncomputable def lkIn3 (L : List Lf) (p q s : Int) (rb i : Nat) : St := ⟨lkTm ++ [(5, .c (.i .i64 i)), (6, .c (.p 3 (3 + i))), (14, .c (.v (.pointer (some ⟨rb, 0, none⟩))))], lkBoxes L p q s⟩
noncomputable def lkK (e : Ex) (st : St) : Option (Ex × St) := some (e, cutSt [2, 3, 4, 14] [2, 3, 4] st)
theorem lk_exec1 (L : List Lf) (p q s : Int) (rb : Nat) : exec Tryz.prog cl0 {} 1000 50 lkT (lkIn3 L p q s rb 1) lkK = bif lb L 1 then some (.normal, lkSt L (-1) q s rb) else some (.normal, lkSt L p q s rb) := by kernel_rfl
theorem lk_exec2 (L : List Lf) (p q s : Int) (rb : Nat) : exec Tryz.prog cl0 {} 1000 50 lkT (lkIn3 L p q s rb 2) lkK = bif lb L 2 then some (.normal, lkSt L p (-1) s rb) else some (.normal, lkSt L p q s rb) := by kernel_rfl
theorem lk_exec3 (L : List Lf) (p q s : Int) (rb : Nat) : exec Tryz.prog cl0 {} 1000 50 lkT (lkIn3 L p q s rb 3) lkK = bif lb L 3 then some (.normal, lkSt L p q (-1) rb) else some (.normal, lkSt L p q s rb) := by kernel_rfl
end Go.Proofs.YtngnemeafkmaoaaGreat

set_option linter.unusedVariables false
set_option linter.unusedSimpArgs false
set_option maxRecDepth 100000
namespace Go.Proofs.YtngnemeafkmaoaaGreat
open Go Go.AM
theorem cl0_ok : OracleOk Tryz.prog cl0 := fun _ _ _ _ h => by cases h
theorem no_laws {hs : Hint} (h : hs.los = []) {kb : Nat} {b : Code} : CutOk Tryz.prog hs kb b := by
 intro id f hl
 unfold lawOf at hl
 rw [h] at hl
 split at hl
 ·cases hl
 ·simp [AM.get] at hl
def notW : V → Bool | .w .. => false | _ => true
theorem noW_of {st : St} (h : (st.tmps.all fun x => notW x.2) = true) : NoW st := by
 intro t x hx s b y he
 subst he
 have : ∀ (l : AL V), (l.all fun x => notW x.2) = true → AM.get l t ≠ some (.w s b y) := by
  intro l
  induction l with
  | nil => intro _ h; cases h
  | cons e r ih =>
   obtain ⟨k, v⟩ := e
   intro hl hg
   simp only [List.all_cons, Bool.and_eq_true] at hl
   simp only [AM.get] at hg
   cases hk : Nat.beq k t with
   | true => rw [hk] at hg; simp only [AM.cond_true rfl, Option.some.injEq] at hg; subst hg; exact absurd hl.1 (by simp [notW])
   | false => rw [hk] at hg; exact ih hl.2 hg
 exact this _ h hx
theorem grown_set {w : World} {b : Nat} {o : Go.Obj} : w.grownBy { w with heap := w.heap.setIfInBounds b o } (some b) :=
 ⟨rfl, rfl, rfl, by simp, fun k hk hne => by
  show (w.heap.setIfInBounds b o)[k]? = _
  rw [Array.getElem?_setIfInBounds, if_neg (fun e => hne (by rw [e]))]⟩
theorem grown_drew {w w1 : World} {b : Nat} {o : Go.Obj} (h : w1 = w ∨ w1 = w.drew) : w.grownBy (ChangeMaps.setBlock w1 b o) (some b) := by
 rcases h with rfl | rfl
 ·exact grown_set
 ·exact ⟨rfl, rfl, rfl, by show w.heap.size ≤ (w.heap.setIfInBounds b o).size; simp, fun k hk hne => by
   show (w.heap.setIfInBounds b o)[k]? = _
   rw [Array.getElem?_setIfInBounds, if_neg (fun e => hne (by rw [e]))]⟩
theorem ins_run {w : World} {mb clock : Nat} {es : Array MapEntry} {k : Int} {v : Value} (hb : w.heap[mb]? = some (.map es clock)) (hf : Instr.findNow (.int .i64) (.int .i64 k) es.toList 0 = some none) :
  (Instr.mapUpdate 269 (.map (some mb)) (.int .i64 k) v).run Tryz.prog w = .ok () { w with heap := w.heap.setIfInBounds mb (.map (es.push { key := .int .i64 k, val := v, born := clock }) (clock + 1)) } := by
 have hc : (Instr.checkKey false 10000 3 (.int .i64 k)).run Tryz.prog w = .ok () w := MapKept.run_checkKey (k := .int .i64 k) lkU3 (by simp [MapKept.IsKey]) false 9999
 simp [Instr.mapUpdate, run_underlying lkU, MapKept.run_getObj_map hb, hc, MapKept.run_findKey lkU3 hf, MapKept.run_setObj_map _ hb, Result.andThen]
def lkE (s : Slot) (i : Nat) : MapEntry := { key := .int .i64 (i + 1), val := .pointer (some ⟨s.blk, s.base + (4 + i), none⟩), born := i }
def lkEs (s : Slot) : Array MapEntry := #[lkE s 0, lkE s 1, lkE s 2]
theorem lk_mem {s : Slot} {e : MapEntry} (h : e ∈ (lkEs s).toList) : ∃ i, i < 3 ∧ e = lkE s i := by
 simp only [lkEs, List.mem_cons, List.not_mem_nil, or_false] at h
 rcases h with rfl | rfl | rfl
 ·exact ⟨0, by omega, rfl⟩
 ·exact ⟨1, by omega, rfl⟩
 ·exact ⟨2, by omega, rfl⟩
section
variable {N n0 : Nat} {F : Nat → Prop} {B M0 : Stab} {w0 : World} {e0 : Base} {env : Env} {a : Act} {w : World}
def LkI (N n0 : Nat) (F : Nat → Prop) (B M0 : Stab) (w0 : World) (e0 : Base) (L : List Lf) (s : Slot) (mb rb : Nat) (a : Act) (w : World) : Prop :=
 ∃ env p q r, ∃ (seen : Array Nat) (c0 : Nat), Rel Tryz.prog N n0 B M0 w0 F e0 env (lkSt L p q r rb) a w ∧ env 3 = s ∧ w.heap[mb]? = some (.map (lkEs s) 3) ∧ w.heap[rb]? = some (.mapIter (some mb) 3 seen c0) ∧ 3 ≤ c0 ∧
  Off env (lkBoxes L p q r) mb ∧ Off env (lkBoxes L p q r) rb ∧ n0 ≤ rb ∧
  p = (bif seen.contains 0 then mis (lb L 1) (li L 13) else li L 13) ∧ q = (bif seen.contains 1 then mis (lb L 2) (li L 14) else li L 14) ∧ r = (bif seen.contains 2 then mis (lb L 3) (li L 15) else li L 15)
def lkM (s : Slot) (rb : Nat) (w : World) : Nat := match w.heap[rb]? with
 | some (.mapIter _ _ seen _) => (leftOf (lkEs s) seen).size
 | _ => 0

theorem rel_cast {st st' : St} (h : Rel Tryz.prog N n0 B M0 w0 F e0 env st a w) (e : st = st') : Rel Tryz.prog N n0 B M0 w0 F e0 env st' a w := e ▸ h
theorem lk_okC {N : Nat} (h : okC N lkC = true) : (∀ o ∈ lkR1, ∀ d, o.dst = some d → d < N) ∧ (∀ o ∈ lkR2, ∀ d, o.dst = some d → d < N) ∧ (∀ o ∈ lkR3, ∀ d, o.dst = some d → d < N) ∧ okC N lkT = true := by
 rw [lkC_eq] at h
 simp only [okC, Bool.and_eq_true] at h
 exact ⟨okC_ops h.1, okC_ops h.2.1, okC_ops h.2.2.2.1, h.2.2.2.2⟩
theorem lk_tail {L : List Lf} {p q r p' q' r' : Int} {rb i : Nat} (hN : okC N lkT = true) (hF : ∀ k, F k → k < 0) (h : Rel Tryz.prog N n0 B M0 w0 F e0 env (lkIn3 L p q r rb i) a w)
  (hx : exec Tryz.prog cl0 {} 1000 50 lkT (lkIn3 L p q r rb i) lkK = some (.normal, lkSt L p' q' r' rb)) :
  lkT.wp Tryz.prog (fun e a' w' => e = .normal ∧ ∃ env', Rel Tryz.prog N n0 B M0 w0 F e0 env' (lkSt L p' q' r' rb) a' w' ∧ AM.Left (· < 1000) env (lkBoxes L p q r) w env' (lkBoxes L p' q' r') w') a w :=
 run_cut (kb := 1000) (ts := [2, 3, 4, 14]) (ks := [2, 3, 4]) cl0_ok (drawSound progOk.mixed cl0_ok) (fun k hk => by have := hF k hk; omega) hN (fun b _ => no_laws rfl) h (noW_of rfl) hx rfl

theorem lk_round {x : Ex × St} {L : List Lf} {s : Slot} {mb rb : Nat} (hok : okC N lkC = true) (hF : ∀ k, F k → k < 0) (hI : LkI N n0 F B M0 w0 e0 L s mb rb a w) (hmr : mb ≠ rb)
  (hx : x = (.normal, ⟨lkTm, lkBoxes L (mis (lb L 1) (li L 13)) (mis (lb L 2) (li L 14)) (mis (lb L 3) (li L 15))⟩)) :
  (Code.seq (.region 2 lkR2.toArray false) (.seq (.cond (.tmp 16) .skip (.exit 0)) (.block 1 (.seq (.region 3 lkR3.toArray false) lkT)))).wp Tryz.prog
   (Exit.then (fun a' w' => LkI N n0 F B M0 w0 e0 L s mb rb a' w' ∧ lkM s rb w' < lkM s rb w) (Exit.inBlock 0 (PostX Tryz.prog N n0 B M0 w0 F e0 (fun e st => some (e, st)) x))) a w := by
 obtain ⟨ok1, ok2, ok3, okT⟩ := lk_okC hok
 obtain ⟨env, p, q, r, seen, c0, h, hs, hb, hr, hc, hOb, hOr, hn, hp, hq, hrr⟩ := hI
 have hold : ∀ x ∈ (lkEs s).toList, x.born < 3 := fun x hx => by obtain ⟨i, hi, rfl⟩ := lk_mem hx; exact hi
 have hM : lkM s rb w = (leftOf (lkEs s) seen).size := by unfold lkM; rw [hr]
 refine wp_seq (wp_region_list ?_)
 show wpList Tryz.prog _ _ lkR2 a w
 rw [lkR2_eq] at ok2 ⊢
 have e14 : a.eval (.tmp 14) = .pointer (some ⟨rb, 0, none⟩) := h.evu (.tmp 14)
 have d0 : ∀ d, (lk2 0).dst = some d → d < N := ok2 _ (by simp)
 have d1 : ∀ d, (lk2 1).dst = some d → d < N := ok2 _ (by simp)
 have g0 : (lk2 0).guard = none := lk20.2.2
 have g1 : (lk2 1).guard = none := noG lkG2 (by rw [lkR2_eq]; simp)
 rcases run_next_at (P := Tryz.prog) w (lk2 0).type rb mb 3 c0 seen (lkEs s) 3 hr hb hold hc with ⟨h0, hrun⟩ | ⟨e, he, w1, hal, hrun⟩
 ·-- nothing is left
  have hall := all_seen (lkEs s) seen h0
  refine wpl_value (v := .tuple #[.bool false]) (w' := w) g0 (by simp only [execOp, lk20.1, e14, Sem.run_bind, hrun, Result.andThen_ok, Sem.run_pure]) ?_
  have h1 := h.put (x := .t [.c (.k false)]) (v := .tuple #[.bool false]) d0 ⟨#[.bool false], rfl, rfl, trivial⟩
  refine wpl_val (x := .c (.k false)) h1 d1 g1 (by kernel_rfl) fun v hv h2 => ?_
  show (Code.seq _ _).wp Tryz.prog _ _ _
  have h16 : (Act.put (Act.put a (lk2 0).dst (.tuple #[.bool false])) (lk2 1).dst v).eval (.tmp 16) = .bool false := h2.evu (.tmp 16)
  refine wp_seq (wp_cond_false h16 (wp_exit ?_))
  have h3 := cutSt_sound h2 [2, 3, 4] [2, 3, 4]
  refine ⟨env, _, h3, ?_⟩
  subst hx
  have s0 := hall (lkE s 0) (by simp [lkEs])
  have s1 := hall (lkE s 1) (by simp [lkEs])
  have s2 := hall (lkE s 2) (by simp [lkEs])
  have s0 : seen.contains 0 = true := s0
  have s1 : seen.contains 1 = true := s1
  have s2 : seen.contains 2 = true := s2
  rw [s0] at hp; rw [s1] at hq; rw [s2] at hrr
  subst hp hq hrr
  show some (Ex.normal, _) = some _
  kernel_rfl
 ·obtain ⟨hes, hnot⟩ := mem_left he
  obtain ⟨i, hi, rfl⟩ := lk_mem hes
  have hw1 : w1.heap = w.heap := by rcases hal with rfl | rfl <;> rfl
  have hsz : rb < w.heap.size := (Array.getElem?_eq_some_iff.1 hr).1
  have hmsz : mb < w.heap.size := (Array.getElem?_eq_some_iff.1 hb).1
  have hg2 := grown_drew (b := rb) (o := .mapIter (some mb) 3 (seen.push (lkE s i).born) 3) hal
  have hr2 : (ChangeMaps.setBlock w1 rb (.mapIter (some mb) 3 (seen.push (lkE s i).born) 3)).heap[rb]? = some (.mapIter (some mb) 3 (seen.push (lkE s i).born) 3) := by
   show (w1.heap.setIfInBounds rb _)[rb]? = _
   rw [hw1, Array.getElem?_setIfInBounds, if_pos rfl, if_pos hsz]
  have hb2 : (ChangeMaps.setBlock w1 rb (.mapIter (some mb) 3 (seen.push (lkE s i).born) 3)).heap[mb]? = some (.map (lkEs s) 3) := by
   rw [hg2.block mb hmsz (fun e => hmr (Option.some.inj e))]; exact hb
  generalize ChangeMaps.setBlock w1 rb (.mapIter (some mb) 3 (seen.push (lkE s i).born) 3) = w2 at hrun hg2 hr2 hb2
  have hA := h.alien hg2 (fun b e => by cases e; exact ⟨hn, (fun c T f e => by rw [hr] at e; cases e), hOr⟩) (fun b e d q => by cases e; rw [hr] at q; cases q)
  refine wpl_value (v := .tuple #[.bool true, (lkE s i).key, (lkE s i).val]) (w' := w2) g0 (by simp only [execOp, lk20.1, e14, Sem.run_bind, hrun, Result.andThen_ok, Sem.run_pure]) ?_
  have h1 := hA.put (x := .t [.c (.k true), .c .u, .c .u]) (v := .tuple #[.bool true, (lkE s i).key, (lkE s i).val]) d0 ⟨_, rfl, rfl, trivial, trivial, trivial⟩
  refine wpl_val (x := .c (.k true)) h1 d1 g1 (by kernel_rfl) fun v hv h2 => ?_
  show (Code.seq _ _).wp Tryz.prog _ _ _
  have h16 : (Act.put (Act.put a (lk2 0).dst (.tuple #[.bool true, (lkE s i).key, (lkE s i).val])) (lk2 1).dst v).eval (.tmp 16) = .bool true := h2.evu (.tmp 16)
  refine wp_seq (wp_cond_true h16 (wp_skip ?_))
  show (Code.block _ _).wp Tryz.prog _ _ _
  refine wp_block (wp_seq (wp_region_list ?_))
  show wpList Tryz.prog _ _ lkR3 _ _
  have f : ∀ o ∈ lkR3, o.guard = none := fun o ho => noG lkG3 ho
  rw [lkR3_eq] at ok3 f ⊢
  have e14' : (Act.put (Act.put a (lk2 0).dst (.tuple #[.bool true, (lkE s i).key, (lkE s i).val])) (lk2 1).dst v).eval (.tmp 14) = .pointer (some ⟨rb, 0, none⟩) := h2.evu (.tmp 14)
  have hent := run_entry_at (P := Tryz.prog) w2 rb mb 3 seen (lkEs s) 3 (lkE s i) hr2 hb2 hes (by simp [lkEs, lkE])
  refine wpl_value (v := .tuple #[(lkE s i).key, (lkE s i).val]) (w' := w2) (f _ (by simp)) (by simp only [execOp, lk30.1, e14', Sem.run_bind, hent, Result.andThen_ok, Sem.run_pure]) ?_
  have h3 := h2.put (x := .t [.c (.i .i64 ((i + 1 : Nat) : Int)), .c (.p 3 (3 + (i + 1)))]) (v := .tuple #[(lkE s i).key, (lkE s i).val]) (ok3 (lk3 0) (by simp)) ⟨_, rfl, by show _ = _; simp [lkE], by
   show (lkE s i).val = _
   rw [hs]
   simp only [lkE]
   congr 4
   omega, trivial⟩
  refine wpl_val (x := .c (.i .i64 ((i + 1 : Nat) : Int))) h3 (ok3 _ (by simp)) (f _ (by simp)) (by kernel_rfl) fun v1 hv1 h4 => ?_
  refine wpl_val (x := .c (.p 3 (3 + (i + 1)))) h4 (ok3 _ (by simp)) (f _ (by simp)) (by kernel_rfl) fun v2 hv2 h5 => ?_
  refine wpl_val (x := .c (.i .i64 ((i + 1 : Nat) : Int))) h5 (ok3 _ (by simp)) (f _ (by simp)) (by kernel_rfl) fun v3 hv3 h6 => ?_
  refine wpl_val (x := .c (.p 3 (3 + (i + 1)))) h6 (ok3 _ (by simp)) (f _ (by simp)) (by kernel_rfl) fun v4 hv4 h7 => ?_
  show lkT.wp Tryz.prog _ _ _
  have h8 : Rel Tryz.prog N n0 B M0 w0 F e0 env (lkIn3 L p q r rb (i + 1)) _ w2 := rel_cast (cutSt_sound h7 [2, 3, 4, 14, 5, 6] [2, 3, 4]) (by kernel_rfl)
  have hlt : (leftOf (lkEs s) (seen.push (lkE s i).born)).size < (leftOf (lkEs s) seen).size := left_shrinks _ _ _ he
  have fin : ∀ (af : Act), Rel Tryz.prog N n0 B M0 w0 F e0 env (lkIn3 L p q r rb (i + 1)) af w2 → ∀ p' q' r', exec Tryz.prog cl0 {} 1000 50 lkT (lkIn3 L p q r rb (i + 1)) lkK = some (.normal, lkSt L p' q' r' rb) →
    p' = (bif (seen.push (lkE s i).born).contains 0 then mis (lb L 1) (li L 13) else li L 13) → q' = (bif (seen.push (lkE s i).born).contains 1 then mis (lb L 2) (li L 14) else li L 14) → r' = (bif (seen.push (lkE s i).born).contains 2 then mis (lb L 3) (li L 15) else li L 15) →
    lkT.wp Tryz.prog (fun e a' w' => e = .normal ∧ (LkI N n0 F B M0 w0 e0 L s mb rb a' w' ∧ lkM s rb w' < lkM s rb w)) af w2 := by
   intro af h8 p' q' r' hx' e1 e2 e3
   refine Code.wp_mono ?_ (lk_tail okT hF h8 hx')
   rintro e a' w' ⟨he', env', k1, k2, k3, k4⟩
   have m1 := k4 mb _ hb2 hOb
   have m2 := k4 rb _ hr2 hOr
   refine ⟨he', ⟨env', p', q', r', _, 3, k1, (k3 3 (by omega)).trans hs, m1.1, m2.1, Nat.le_refl _, m1.2, m2.2, hn, e1, e2, e3⟩, ?_⟩
   rw [hM]
   unfold lkM
   rw [m2.1]
   exact hlt
  have done : ∀ {c : Code} {a' : Act} {w' : World}, c.wp Tryz.prog (fun e a' w' => e = .normal ∧ (LkI N n0 F B M0 w0 e0 L s mb rb a' w' ∧ lkM s rb w' < lkM s rb w)) a' w' →
    c.wp Tryz.prog (Exit.inBlock 1 (Exit.then (fun a' w' => LkI N n0 F B M0 w0 e0 L s mb rb a' w' ∧ lkM s rb w' < lkM s rb w) (Exit.inBlock 0 (PostX Tryz.prog N n0 B M0 w0 F e0 (fun e st => some (e, st)) x)))) a' w' := fun hc => Code.wp_mono (fun e a' w' hp => by obtain ⟨rfl, hp⟩ := hp; exact hp) hc
  refine done ?_
  have hcp : ∀ j, (seen.push (lkE s i).born).contains j = (seen.contains j || j == i) := fun j => contains_push seen i j
  have hni : seen.contains i = false := hnot
  clear hv hv1 hv2 hv3 hv4 h1 h2 h3 h4 h5 h6 h7 hA hent e14' h16 hrun
  generalize (Act.put _ (lk3 4).dst v4) = af at h8 ⊢
  rcases (by omega : i = 0 ∨ i = 1 ∨ i = 2) with rfl | rfl | rfl
  ·skip
   rw [hni] at hp
   cases hf : lb L 1 with
   | true => exact fin _ h8 (-1) q r (by rw [lk_exec1, hf]; rfl) (by rw [hcp, hf]; simp [mis]) (by rw [hcp, hq]; simp) (by rw [hcp, hrr]; simp)
   | false => exact fin _ h8 p q r (by rw [lk_exec1, hf]; rfl) (by rw [hcp, hf, hp]; simp [mis]) (by rw [hcp, hq]; simp) (by rw [hcp, hrr]; simp)
  ·skip
   rw [hni] at hq
   cases hf : lb L 2 with
   | true => exact fin _ h8 p (-1) r (by rw [lk_exec2, hf]; rfl) (by rw [hcp, hp]; simp) (by rw [hcp, hf]; simp [mis]) (by rw [hcp, hrr]; simp)
   | false => exact fin _ h8 p q r (by rw [lk_exec2, hf]; rfl) (by rw [hcp, hp]; simp) (by rw [hcp, hf, hq]; simp [mis]) (by rw [hcp, hrr]; simp)
  ·skip
   rw [hni] at hrr
   cases hf : lb L 3 with
   | true => exact fin _ h8 p q (-1) (by rw [lk_exec3, hf]; rfl) (by rw [hcp, hp]; simp) (by rw [hcp, hq]; simp) (by rw [hcp, hf]; simp [mis])
   | false => exact fin _ h8 p q r (by rw [lk_exec3, hf]; rfl) (by rw [hcp, hp]; simp) (by rw [hcp, hq]; simp) (by rw [hcp, hf, hrr]; simp [mis])
end
end Go.Proofs.YtngnemeafkmaoaaGreat

set_option linter.unusedVariables false
set_option linter.unusedSimpArgs false
set_option maxRecDepth 100000
namespace Go.Proofs.YtngnemeafkmaoaaGreat
open Go Go.AM
section
variable {N n0 : Nat} {F : Nat → Prop} {B M0 : Stab} {w0 : World} {e0 : Base} {env : Env} {a : Act} {w : World}
theorem run_mk (w : World) : (Instr.makeMap 269 none).run Tryz.prog w = .ok (.map (some w.heap.size)) (w.alloc (.map #[] 0)) := by simp [Instr.makeMap]
theorem lk_ins {st : St} {mb clock : Nat} {es : Array MapEntry} {k : Int} {v : Value} {o : Oper} {ops : Array Oper} {Q : Exit → Act → World → Prop} {rest : List Oper} {t : Nat} (h : Rel Tryz.prog N n0 B M0 w0 F e0 env st a w) (hb : w.heap[mb]? = some (.map es clock)) (hn : n0 ≤ mb) (hO : Off env st.mem mb)
  (ho : o.op = .insert 269 (.tmp 9) (.const (.int .i64 k)) (.tmp t) ∧ o.dst = none ∧ o.guard = none) (h9 : a.eval (.tmp 9) = .map (some mb)) (hv : a.eval (.tmp t) = v) (hf : Instr.findNow (.int .i64) (.int .i64 k) es.toList 0 = some none)
  (hk : ∀ w', Rel Tryz.prog N n0 B M0 w0 F e0 env st a w' → w'.heap[mb]? = some (.map (es.push { key := .int .i64 k, val := v, born := clock }) (clock + 1)) → w'.heap.size = w.heap.size → wpList Tryz.prog ops Q rest a w') : wpList Tryz.prog ops Q (o :: rest) a w := by
 refine wpl_skip (w' := { w with heap := w.heap.setIfInBounds mb (.map (es.push { key := .int .i64 k, val := v, born := clock }) (clock + 1)) }) ho.2.2 ?_ ?_
 ·have : a.eval (.const (.int .i64 k)) = .int .i64 k := rfl
  simp only [execOp, ho.1, h9, hv, this, Sem.run_bind, ins_run hb hf, Result.andThen_ok, Sem.run_pure]
 ·rw [ho.2.1]
  refine hk _ (h.alien grown_set (fun r e => by cases e; exact ⟨hn, (fun c T f e => by rw [hb] at e; cases e), hO⟩) (fun r e d q => by cases e; rw [hb] at q; cases q)) ?_ (by simp)
  show (w.heap.setIfInBounds mb _)[mb]? = _
  rw [Array.getElem?_setIfInBounds, if_pos rfl, if_pos (Array.getElem?_eq_some_iff.1 hb).1]
theorem lookLaw : CutLaw Tryz.prog 0 (piece Tryz.prog 186 300000004) (loSh shLook ALook) := by
 intro st alts hst x hx N n0 F B M0 w0 e0 env a w _ hF hok hrel
 have hq := loSh_law (sh := shLook) (A := ALook) (Q := fun st x => ∃ L, st = ofSh shLook L ∧ altK (ALook L) some = some x) (fun L x hx => ⟨L, rfl, hx⟩) st alts hst x hx
 obtain ⟨L, rfl, hxL⟩ := hq
 have hx' : x = (.normal, ⟨lkTm, lkBoxes L (mis (lb L 1) (li L 13)) (mis (lb L 2) (li L 14)) (mis (lb L 3) (li L 15))⟩) := by
  have : some (Ex.normal, (⟨lkTm, lkBoxes L (mis (lb L 1) (li L 13)) (mis (lb L 2) (li L 14)) (mis (lb L 3) (li L 15))⟩ : St)) = some x := hxL
  exact (Option.some.inj this).symm
 clear hst hx hxL
 have hok' : okC N lkC = true := hok
 obtain ⟨ok1, _, _, _⟩ := lk_okC hok'
 rw [shLook_eq] at hrel
 show lkC.wp Tryz.prog _ _ _
 rw [lkC_eq]
 refine wp_seq (wp_region_list ?_)
 show wpList Tryz.prog _ _ lkR1 a w
 have f : ∀ o ∈ lkR1, o.guard = none := fun o ho => noG lkG1 ho
 rw [lkR1_eq] at ok1 f ⊢
 have hn0 := hrel.n0le
 -- the map
 have hO0 : Off env (lkBoxes L (li L 13) (li L 14) (li L 15)) w.heap.size := Off.new hrel (Nat.le_refl _)
 have hO1 : Off env (lkBoxes L (li L 13) (li L 14) (li L 15)) (w.heap.size + 1) := Off.new hrel (Nat.le_succ _)
 obtain ⟨mb, hmb⟩ : ∃ mb, mb = w.heap.size := ⟨_, rfl⟩
 have hA := hrel.alien (World.grownBy_alloc w (.map #[] 0) none) (fun r e => by cases e) (fun r e => by cases e)
 have hb0 : (w.alloc (.map #[] 0)).heap[mb]? = some (.map #[] 0) := by rw [hmb]; exact (MapKept.heap_alloc w _).1
 have hsz0 : (w.alloc (.map #[] 0)).heap.size = mb + 1 := by rw [hmb]; simp
 refine wpl_value (v := .map (some mb)) (w' := w.alloc (.map #[] 0)) (f _ (by simp)) (by simp only [execOp, lk10.1, Option.map_none, run_mk, Sem.run_bind, Result.andThen_ok, Sem.run_pure, hmb]) ?_
 rw [← hmb] at hO0 hO1
 have h0 := hA.put (x := .c (.v (.map (some mb)))) (v := .map (some mb)) (ok1 (lk1 0) (by simp)) (show _ = _ from rfl)
 generalize w.alloc (.map #[] 0) = wA at h0 hb0 hsz0
 clear hA
 have hnm : n0 ≤ mb := by omega
 refine wpl_val (x := .c (.p 3 4)) h0 (ok1 _ (by simp)) (f _ (by simp)) (by kernel_rfl) fun v1 hv1 h1 => ?_
 refine lk_ins h1 hb0 hnm hO0 lk12 (h1.evu (.tmp 9)) (h1.evu (.tmp 10)) rfl fun w1 h2 hb1 hs1 => ?_
 refine wpl_val (x := .c (.p 3 5)) h2 (ok1 _ (by simp)) (f _ (by simp)) (by kernel_rfl) fun v2 hv2 h3 => ?_
 refine lk_ins h3 hb1 hnm hO0 lk14 (h3.evu (.tmp 9)) (h3.evu (.tmp 11)) rfl fun w2 h4 hb2 hs2 => ?_
 refine wpl_val (x := .c (.p 3 6)) h4 (ok1 _ (by simp)) (f _ (by simp)) (by kernel_rfl) fun v3 hv3 h5 => ?_
 refine lk_ins h5 hb2 hnm hO0 lk16 (h5.evu (.tmp 9)) (h5.evu (.tmp 12)) rfl fun w3 h6 hb3 hs3 => ?_
 refine wpl_val (x := .c (.v (.map (some mb)))) h6 (ok1 _ (by simp)) (f _ (by simp)) (by kernel_rfl) fun v4 hv4 h7 => ?_
 have e13 : (Act.put _ (lk1 7).dst v4).eval (.tmp 13) = .map (some mb) := h7.evu (.tmp 13)
 have hes : w3.heap[mb]? = some (.map (lkEs (env 3)) 3) := hb3
 have hrn := run_range_map (P := Tryz.prog) w3 269 3 186 mb (lkEs (env 3)) 3 lkU hes
 obtain ⟨rb, hrb⟩ : ∃ rb, rb = w3.heap.size := ⟨_, rfl⟩
 rw [← hrb] at hrn
 have hsr : rb = mb + 1 := by omega
 refine wpl_value (v := .pointer (some ⟨rb, 0, none⟩)) (w' := w3.alloc (.mapIter (some mb) 3 #[] 3)) (f _ (by simp)) (by simp only [execOp, lk18.1, e13, Sem.run_bind, hrn, Result.andThen_ok, Sem.run_pure]) ?_
 have hr4 : (w3.alloc (.mapIter (some mb) 3 #[] 3)).heap[rb]? = some (.mapIter (some mb) 3 #[] 3) := by rw [hrb]; exact (MapKept.heap_alloc w3 _).1
 have hb4 : (w3.alloc (.mapIter (some mb) 3 #[] 3)).heap[mb]? = some (.map (lkEs (env 3)) 3) := ((MapKept.heap_alloc w3 _).2 mb (Array.getElem?_eq_some_iff.1 hes).1).trans hes
 have h8 := (h7.alien (World.grownBy_alloc w3 (.mapIter (some mb) 3 #[] 3) none) (fun r e => by cases e) (fun r e => by cases e)).put (x := .c (.v (.pointer (some ⟨rb, 0, none⟩)))) (v := .pointer (some ⟨rb, 0, none⟩)) (ok1 (lk1 8) (by simp)) (show _ = _ from rfl)
 generalize w3.alloc (.mapIter (some mb) 3 #[] 3) = w4 at h8 hr4 hb4
 have h9 : Rel Tryz.prog N n0 B M0 w0 F e0 env (lkSt L (li L 13) (li L 14) (li L 15) rb) _ w4 := rel_cast (cutSt_sound h8 [2, 3, 4, 14] [2, 3, 4]) (by kernel_rfl)
 show (Code.block 0 _).wp Tryz.prog _ _ _
 refine wp_block (wp_loop (LkI N n0 F B M0 w0 e0 L (env 3) mb rb) (fun _ w => lkM (env 3) rb w) ?_ fun a' w' hI => lk_round hok' hF hI (by omega) hx')
 exact ⟨env, _, _, _, #[], 3, h9, rfl, hb4, hr4, Nat.le_refl _, hO0, by rw [hsr]; exact hO1, by omega, by simp, by simp, by simp⟩
end
end Go.Proofs.YtngnemeafkmaoaaGreat

set_option linter.unusedVariables false
set_option maxRecDepth 100000
namespace Go.Proofs.YtngnemeafkmaoaaGreat
open Go Go.AM
noncomputable def trg186x0 : List (Nat × List Nat) := [(0, [0, 1]), (1, [3, 2, 4]), (2, [14, 2, 3, 4]), (3, [14, 2, 3, 4]), (4, [5, 2, 6, 14, 3, 4]), (5, [6, 14, 2, 3, 4]), (6, [2, 3, 4]), (7, [3, 2, 4]), (8, [2, 3, 4]), (9, [33, 32, 31, 3, 4]), (10, [31, 33, 3, 32, 4]), (11, [3, 8, 33, 32, 31, 4]), (12, [33, 32, 31, 3, 4]), (13, [3, 4])]
noncomputable def thd186x0 : Hints := [(300000004, [3, 2, 4], [4, 3, 2], []), (23, [3, 2, 4, 28], [4, 3, 2], []), (27, [33, 32, 31, 3, 4], [4, 3], [])]
noncomputable def tsh186x0 : Sh := { tmps := [(0, .g (rB 5 ([.sl 3, .b, .b]))), (1, .g (rI 7 ([])))], mem := [] }
noncomputable def trg142x0 : List (Nat × List Nat) := [(0, [1, 2, 0]), (1, [1, 2, 4, 0]), (2, [2, 4, 0, 6]), (3, [2, 4, 7, 0, 6]), (4, [22, 21, 20, 4, 7, 0, 6, 2]), (5, [22, 20, 4, 21, 7, 0, 6, 2]), (6, [4, 8, 22, 21, 20, 7, 0, 6, 2, 9]), (7, [7, 9, 0, 6, 2, 22, 21, 20, 4]), (8, [10, 9, 7, 0, 6, 2, 22, 21, 20, 4]), (9, [0, 6, 2, 7, 9, 22, 21, 20, 4]), (10, [9, 22, 21, 20, 4, 0, 6, 2]), (11, [7, 9, 22, 21, 20, 4, 0, 6, 2]), (12, [22, 21, 20, 4, 7, 0, 6, 2]), (13, [7, 0, 6, 2]), (14, [0, 6, 2, 7])]
noncomputable def thd142x0 : Hints := [(12, [22, 21, 20, 4, 7, 0, 6, 2], [3, 2, 0, 11, 1, 4, 12, 50002005], [7, 50002000]), (25, [10, 9, 7, 0, 6, 2, 22, 21, 20, 4], [50002005, 2, 0, 14, 12, 11, 1, 4], []), (28, [0, 6, 2, 7, 9, 22, 21, 20, 4], [50002005, 2, 0, 14, 12, 11, 1, 4], []), (29, [0, 6, 2, 7, 9, 22, 21, 20, 4, 46], [50002005, 2, 0, 14, 12, 11, 1, 4], []), (43, [0, 6, 2, 7], [50002005, 2, 0, 12, 11, 1, 4], []), (44, [0, 6, 2, 7, 61], [50002005, 2, 0, 12, 11, 1, 4], [])]
noncomputable def tsh142x0 : Sh := { tmps := [(0, .c (.y 4)), (1, .c (.p 0 0)), (2, .c (.p 1 0))], mem := [(0, .box ([.sl 67])), (1, .box (.s :: [.i .i64, .i .i64, .sl 69, .sl 130, .sl 9])), (2, .box ([.o 3])), (3, .row 60 true), (4, .row 3 true)] }
noncomputable def tsh142x0x28 : Sh := { tmps := [(0, .c (.y 4)), (2, .c (.p 1 0)), (4, .c (.sl 4)), (6, .c (.p 11 0)), (7, .c (.o 12)), (9, .c (.p 14 0)), (20, .c (.sl 69)), (21, .c (.i .i64)), (22, .c (.i .i64))], mem := [(0, .box ([.sl 67])), (1, .box (.s :: [.i .i64, .i .i64, .sl 69, .sl 130, .sl 9])), (2, .box ([.o 50002005])), (4, .row 3 true), (11, .box (rB 5 ([.sl 3, .b, .b]))), (12, .row 69 true), (14, .box (rI 7 ([]))), (50002005, .row 60 true)] }
noncomputable def tsh142x0x43 : Sh := { tmps := [(0, .c (.y 4)), (2, .c (.p 1 0)), (6, .c (.p 11 0)), (7, .c (.o 12))], mem := [(0, .box ([.sl 67])), (1, .box (.s :: [.i .i64, .i .i64, .sl 69, .sl 130, .sl 9])), (2, .box ([.o 50002005])), (4, .row 3 true), (11, .box (rB 5 ([.sl 3, .b, .b]))), (12, .row 69 true), (50002005, .row 60 true)] }
noncomputable def trg35x0 : List (Nat × List Nat) := [(0, [0, 1, 2]), (1, [3, 1, 2]), (2, [2, 7]), (3, [2, 7, 8]), (4, [17, 16, 15, 7, 8]), (5, [15, 17, 7, 16, 8]), (6, [7, 10, 17, 16, 15, 8]), (9, [17, 16, 15, 7, 8]), (10, [8])]
noncomputable def thd35x0 : Hints := [(12, [17, 16, 15, 7, 8], [8, 50008000], [50008000]), (600000022, [17, 16, 15, 7, 8, 23], [24000000003, 24000000002, 50008000, 8], [])]
noncomputable def tsh35x0x600000022 : Sh := { tmps := [(7, .c (.sl 67)), (8, .c (.p 8 0)), (15, .c (.sl 60)), (16, .c (.i .i64)), (17, .c (.i .i64)), (23, .c (.f 142 [(24000000002, 0), (24000000003, 0)]))], mem := [(8, .box ([.o 50008000])), (50008000, .row 60 true), (24000000002, .box ([.sl 67])), (24000000003, .box (.s :: [.i .i64, .i .i64, .sl 69, .sl 130, .sl 9]))] }
noncomputable def tsh35x0 : Sh := { tmps := [(0, .g ([.sl 67])), (1, .c (.i .i64)), (2, .c (.sl 60))], mem := [] }
noncomputable def ty35x0z600000022 : YInfo := rfY (piece Tryz.prog 35 600000022) [(8, 2, 0)] 4
noncomputable def bk : Book := fun _ => {}
noncomputable def R0 : Oracle := tow Tryz.prog bk noOracle 300
theorem R0_ok : OracleOk Tryz.prog R0 := tow_ok progOk bk (fun _ => rfl) noOracle_ok 300
noncomputable def q186 : Sg Tryz.prog 0 186 := (Sg.start thd186x0 trg186x0).hand lookLaw
noncomputable def E186 (L : List Lf) : List (Bool × Res) := evA (bd Tryz.prog R0 q186.h 186 tsh186x0 L)
theorem e186 : FnOk Tryz.prog 186 tsh186x0 E186 := q186.fn progOk R0_ok fun L x hx => evA_law hx
noncomputable def B1 : Oracle := ext 186 (spSh tsh186x0 E186) noOracle
theorem B1_ok : OracleOk Tryz.prog B1 := e186.to noOracle_ok
noncomputable def R1 : Oracle := tow Tryz.prog bk B1 300
theorem R1_ok : OracleOk Tryz.prog R1 := tow_ok progOk bk (fun _ => rfl) B1_ok 300
noncomputable def q1420 : Sg Tryz.prog 5 142 (YCtx ty35x0z600000022) := .start thd142x0 trg142x0
noncomputable def q1421 : Sg Tryz.prog 5 142 (YCtx ty35x0z600000022) := q1420.cutY (id := 28) (a := [9, 22, 21, 20, 4, 0, 6, 2, 53]) (b := [53000000033, 2, 0, 14, 11, 1, 4]) (sh := tsh142x0x28) (fun L => evA (pcY Tryz.prog R1 5 ty35x0z600000022 142 28 tsh142x0x28 L [9, 22, 21, 20, 4, 0, 6, 2, 53] [53000000033, 2, 0, 14, 11, 1, 4])) R1_ok fun L x hx => evA_law hx
noncomputable def q1422 : Sg Tryz.prog 5 142 (YCtx ty35x0z600000022) := q1421.cutY (id := 43) (a := []) (b := [4, 68000000033, 2, 1, 0]) (sh := tsh142x0x43) (fun L => evA (pcY Tryz.prog R1 5 ty35x0z600000022 142 43 tsh142x0x43 L [] [4, 68000000033, 2, 1, 0])) R1_ok fun L x hx => evA_law hx
noncomputable def E142 (L : List Lf) : List (Bool × Res) := evA (bd Tryz.prog R1 q1422.h 142 tsh142x0 L)
theorem e142 : FnOkX (YCtx ty35x0z600000022) Tryz.prog 142 tsh142x0 E142 := q1422.fnX progOk R1_ok fun L x hx => evA_law hx
noncomputable def q350 : Sg Tryz.prog 0 35 := .start thd35x0 trg35x0
noncomputable def q35 : Sg Tryz.prog 0 35 := q350.rf (g := .tmp 23) (id := 600000022) (a := [17, 16, 15, 7, 8]) (b := [1000068000000033, 8, 1000000050002005]) (sh := tsh35x0x600000022) (fun L => evA (pcR Tryz.prog ty35x0z600000022 (spSh tsh142x0 E142) 142 3 0 35 600000022 tsh35x0x600000022 L [17, 16, 15, 7, 8] [1000068000000033, 8, 1000000050002005])) e142 (fun L x hx => evA_law hx) (by kernel_rfl)
noncomputable def E35 (L : List Lf) : List (Bool × Res) := evA (bd Tryz.prog R1 q35.h 35 tsh35x0 L)
theorem e35 : FnOk Tryz.prog 35 tsh35x0 E35 := q35.fn progOk R1_ok fun L x hx => evA_law hx
noncomputable def B2 : Oracle := ext 35 (spSh tsh35x0 E35) B1
theorem B2_ok : OracleOk Tryz.prog B2 := e35.to B1_ok
noncomputable def R2 : Oracle := tow Tryz.prog bk B2 300
theorem R2_ok : OracleOk Tryz.prog R2 := tow_ok progOk bk (fun _ => rfl) B2_ok 300
theorem told_run : R2 9 [] [] = some [(true, ([.c (.b true)], []))] := by kernel_rfl
theorem told_call : CallOk Tryz.prog 9 [] [] ([.c (.b true)], []) := (R2_ok 9 [] [] _ told_run).2 _ rfl
noncomputable def toldSh : Sh := { tmps := [], mem := [] }
noncomputable def toldA (_ : List Lf) : List (Bool × Res) := [(true, ([.c (.b true)], []))]
theorem told_fn : FnOk Tryz.prog 9 toldSh toldA := spSh_law fun L x hx => by
 have hx : some (([.c (.b true)], []) : Res) = some x := hx
 simp only [Option.some.injEq] at hx
 subst hx
 exact told_call
end Go.Proofs.YtngnemeafkmaoaaGreat

