/- A part of a proof of a law: lemmas on what the functions of the program compute. Conditions: those of each lemma. -/
import Derived.Test.YtefmjfcdgadggaaPl2
import Derived.Test.YtefmjfcdgadggaaAm38
import Derived.Test.YtefmjfcdgadggaaRows
set_option linter.all false
namespace Go.Proofs.Ytefmjfcdgadggaa
open Go Go.AM
set_option maxRecDepth 100000
set_option maxHeartbeats 1000000
theorem told_ok : G16x0 18446744073709551616 = some true := by kernel_rfl
theorem law4 {first days before : Int} {ses rules : List D} (i : Int) (hs : ses.length ≤ maxLen) (hr : rules.length ≤ maxLen) (hn : NamesOk ses) : G4x0 18446744073709551616 first days before ses rules i = some true := by
  have hN : maxLen < 18446744073709551616 := by decide
  have h1 := G19x0_eq hN (first := first) (days := days) (before := before) hs hr hn
  have h2 := G20x0_eq hN (first := first) (days := days) (before := before) hs hr hn
  have e : G17x0 18446744073709551616 first days before ses rules i = G18x0 18446744073709551616 first days before ses rules i := by
    unfold G17x0 F17x0 G18x0 F18x0 V49x0 F49x0
    simp only [h1, h2, bnd_eq, V48x0_eq, V50x0_eq, Bool.not_not]
  have s : ∃ p, G18x0 18446744073709551616 first days before ses rules i = some p := by
    unfold G18x0 F18x0
    simp only [h2, bnd_eq, V50x0_eq, Option.isSome_some, _root_.cond_true, getD_some]
    cases chk first days before ses rules != 0 with
    | true => exact ⟨_, rfl⟩
    | false => cases out i 0 (IntKind.wrap .i64 (days - 1)) <;> exact ⟨_, rfl⟩
  obtain ⟨p, hp⟩ := s
  unfold G4x0 F4x0
  rw [e, hp]
  simp only [bnd_eq, Option.isSome_some, _root_.cond_true, getD_some, G4x0x10, F4x0x10, h1, h2, told_ok, beq_self_eq_true]
/-- The law's data. -/
theorem kinds66 : kinds Try.prog 66 = [.str, .int .i64, .int .i64, .int .i64, .bool] := by kernel_rfl
theorem names_ok {m : Nat} {x : D} (h : TyEl Try.prog (TyK Try.prog (m + 1)) 66 x) : (x.cell 0).toS.length ≤ maxLen := by
  unfold TyEl at h
  have : isAggB Try.prog 66 = true := by kernel_rfl
  rw [if_pos this, kinds66] at h
  obtain ⟨cs, rfl, hc⟩ := h
  match cs, hc with
  | c :: r, hc =>
    obtain ⟨s, rfl, hl⟩ := hc.1
    exact hl
theorem kinds25 : kinds Try.prog 25 = [.int .i64, .int .i64, .int .i64, .sl 66, .sl 68] := by kernel_rfl
theorem kinds3 : kinds Try.prog 3 = [.int .i64] := by kernel_rfl
/-- A season, typed. -/
structure SeasonOk (first days before : Int) (ses rules : List D) : Prop where
  ls : ses.length ≤ maxLen
  lr : rules.length ≤ maxLen
  es : ∀ x ∈ ses, TyEl Try.prog (TyK Try.prog 5) 66 x
  er : ∀ x ∈ rules, TyEl Try.prog (TyK Try.prog 5) 68 x
theorem SeasonOk.names {first days before : Int} {ses rules : List D} (h : SeasonOk first days before ses rules) : NamesOk ses := fun x hx => names_ok (h.es x hx)
theorem arg25 {ds : List D} (h : ArgOk Try.prog 6 25 ds) : ∃ first days before n ses n' rules, ds = [.i first, .i days, .i before, .l n ses, .l n' rules] ∧ SeasonOk first days before ses rules := by
  unfold ArgOk at h
  rw [kinds25] at h
  obtain ⟨_, _, rfl, h0, h⟩ := all2_cons h
  obtain ⟨_, _, rfl, h1, h⟩ := all2_cons h
  obtain ⟨_, _, rfl, h2, h⟩ := all2_cons h
  obtain ⟨_, _, rfl, h3, h⟩ := all2_cons h
  obtain ⟨_, _, rfl, h4, h⟩ := all2_cons h
  obtain rfl := all2_nil h
  obtain ⟨a, rfl, _⟩ := ty_int (m := 5) h0
  obtain ⟨b, rfl, _⟩ := ty_int (m := 5) h1
  obtain ⟨c, rfl, _⟩ := ty_int (m := 5) h2
  obtain ⟨n, xs, rfl, _, l1, e1⟩ := ty_sl (m := 5) h3
  obtain ⟨n', ys, rfl, _, l2, e2⟩ := ty_sl (m := 5) h4
  exact ⟨a, b, c, n, xs, n', ys, rfl, l1, l2, e1, e2⟩
theorem arg3 {ds : List D} (h : ArgOk Try.prog 6 3 ds) : ∃ i, ds = [.i i] ∧ (Lit.int .i64 i).wf = true := by
  unfold ArgOk at h
  rw [kinds3] at h
  obtain ⟨_, _, rfl, h0, h⟩ := all2_cons h
  obtain rfl := all2_nil h
  obtain ⟨a, rfl, w⟩ := ty_int (m := 5) h0
  exact ⟨a, rfl, w⟩
theorem call4 (dss : List (List D)) (h : All2 (ArgOk Try.prog 6) Try.f4.params.toList dss) : CallOk Try.prog 4 (argVs Try.prog Try.f4.params.toList dss) [] ([.c (.b true)], []) := by
  have hp : Try.f4.params.toList = [25, 3] := by kernel_rfl
  rw [hp] at h ⊢
  match dss, h with
  | [d0, d1], ⟨h0, h1, _⟩ =>
    obtain ⟨first, days, before, n, ses, n', rules, rfl, hs⟩ := arg25 h0
    obtain ⟨i, rfl, _⟩ := arg3 h1
    refine ok4x0 18446744073709551616 _ _ (A4x0 18446744073709551616 [.i first, .i days, .i before, .b n, .l ses, .b n', .l rules, .i i]) (by kernel_rfl) _ ?_
    have e : A4x0 18446744073709551616 [.i first, .i days, .i before, .b n, .l ses, .b n', .l rules, .i i] = bnd (G4x0 18446744073709551616 first days before ses rules i) fun q => [(q.isSome, ([.c (.b (q.getD default))], []))] := by kernel_rfl
    rw [e, law4 i hs.ls hs.lr hs.names]
    rfl
theorem Try.own : ownKnob Try.prog.godebug = none := by kernel_rfl
theorem Try.laidOut : laidOutB Try.prog = true := by kernel_rfl
theorem check_lifted (os : Os) (started : os.Started) (H : Type) (enc : TypeId × Value → H) :
    ReturnsInHanded {} Try.checked os 4 .any (Rows.seasonCheckMatchesSpecSpec.pre6 enc Try.prog Try.f4 Rows.seasonCheckMatchesSpecRow.domain false) (Rows.seasonCheckMatchesSpecSpec.post enc Try.prog Try.f4 false true false false) := by
  refine returnsInHanded_of_change (C := Try.checked) Try.own started (by kernel_rfl) Try.func4
    (ChangeSpec.witness6 (enc := enc) (C := Try.checked) false ⟨#[], #[.agg #[.int .i64 0, .int .i64 0, .int .i64 0, .slice none 0 0, .slice none 0 0], .int .i64 0], []⟩ 8 (by kernel_rfl) (by kernel_rfl) (by kernel_rfl) (by kernel_rfl)) ?_
  intro W base args ds gs before hval hW _ _
  exact law_call (m := 6) (tb := 4) Try.laidOut rfl (by kernel_rfl) (by kernel_rfl) (by kernel_rfl) (fun l hl => by
    rw [show Try.f4.params.size = 2 by kernel_rfl] at hl
    match l, hl with
    | [_, _], _ => rfl) call4 hval hW
theorem check_holds : Rows.SeasonCheckMatchesSpecSaid :=
  OpenClaim.holds_of_wide 4 Try.f4 rfl rfl rfl rfl rfl rfl rfl ⟨rfl, rfl, rfl, rfl, rfl⟩ rfl rfl rfl rfl rfl (by kernel_rfl) Try.func4 (by kernel_rfl)
    (of_decide_eq_true (by kernel_rfl)) (by unfold Func.isWrapper; first | (rw [if_pos (by decide +kernel)]; kernel_rfl) | (rw [if_neg (by decide +kernel)]; exact ⟨rfl, rfl⟩))
    (fun os started H enc _ => check_lifted os started H enc)
end Go.Proofs.Ytefmjfcdgadggaa
