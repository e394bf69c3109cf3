/- Proved: for every season and every list of what was done, with the rules of a reason alone there is no plan, and without any one of them there is (SeasonReasonIsEnough returns true and leaves its arguments as they were). Conditions: none beyond those of the given statement. -/
import Derived.Test.YtefmjfcdgadggaaPl1
import Derived.KernelRfl
set_option linter.all false
set_option maxRecDepth 100000
namespace Go.Proofs.Ytefmjfcdgadggaa
open Go Go.AM
set_option maxRecDepth 100000
set_option maxHeartbeats 1000000
variable {N : Nat}
section
variable {first days before : Int} {ses rules done plan : List D} {nb rb fb ab : Bool}
theorem enough_loop (hg : Good first days before ses rules) (hN : maxLen < N) (hs : ses.length ≤ maxLen) (hn : NamesOk ses) (hl : done.length ≤ maxLen) (hd : ∀ r ∈ rules, RuleD r) (he : (doneE first days before ses rules done != 0) = false) {off : Nat → Bool} (hk : ∀ k ∈ keepN off 0 rules, ways first days before ses rules done (upd off k true) > 0) (nb fb : Bool) :
  G6x0x42 N fb done (nums (keepN off 0 rules)) (nums (keepN off 0 rules)) ((nums (keepN off 0 rules)).length : Int) first days before nb ses rules 0 = some (.inr ()) := by
 have hM : maxLen = 9223372036854775807 := rfl
 have h12 := hg.nrules
 have hkl := keepN_len (off := off) (l := rules) (w := 0)
 have hnl := nums_len (ks := keepN off 0 rules)
 unfold G6x0x42
 refine (for_ind (xs := nums (keepN off 0 rules)) (.i 0 : D) (S := fun w kr => S6x0x42 N fb done (nums (keepN off 0 rules)) (nums (keepN off 0 rules)) ((nums (keepN off 0 rules)).length : Int) first days before nb ses rules w kr _ _) (L := fun m w => L6x0x42 N fb done (nums (keepN off 0 rules)) (nums (keepN off 0 rules)) ((nums (keepN off 0 rules)).length : Int) first days before nb ses rules m w _ _) (fun m w => rfl) (fun _ _ => some (.inr ())) (by omega) ?_ ?_ hN).trans rfl
 ·intro kr; simp [S6x0x42]
 ·intro w kr h0 h1 hw hi hkr
  have hel : (keepN off 0 rules).getD w.toNat 0 ∈ keepN off 0 rules := getD_mem _ h0 (by omega)
  have hv : ((nums (keepN off 0 rules)).getD w.toNat (.i 0)).toI = ((keepN off 0 rules).getD w.toNat 0 : Nat) := by
   have hlt : w.toNat < (keepN off 0 rules).length := by omega
   simp only [nums, List.getD_eq_getElem?_getD, List.getElem?_map, List.getElem?_eq_getElem hlt, Option.map_some, Option.getD_some]
   rfl
  generalize (keepN off 0 rules).getD w.toNat 0 = k at hel hv
  obtain ⟨b, e1⟩ := G25x0_eq hN (rules := rules) (ks := keepN off 0 rules) (fun k hk => by have := keepN_lt hk; omega) (by omega) hd (k : Int)
  rw [keepN_not, keep_at (L := rules) (l := rules) (w := 0) rfl] at e1
  have e2 := G13x0_eq hN (first := first) (days := days) (before := before) (rules := keepR (upd off k true) 0 rules) hs (Nat.le_trans keepR_len (by omega)) hn hl nb b fb
  rw [countR_keep hn he] at e2
  have hp := hk k hel
  have hz : (ways first days before ses rules done (upd off k true) == 0) = false := by rw [beq_eq_false_iff_ne]; omega
  simp only [S6x0x42, decide_eq_true h1, _root_.cond_true, hi, hv, e1, e2, bnd_eq, Option.isSome_some, getD_some, bne_self_eq_false, _root_.cond_false, hz, hw, hkr]
theorem law6 (nb rb fb : Bool) (hs : ses.length ≤ maxLen) (hr : rules.length ≤ maxLen) (hn : NamesOk ses) (hl : done.length ≤ maxLen) (hd : ∀ r ∈ rules, RuleD r) : G6x0 18446744073709551616 first days before nb ses rb rules fb done = some true := by
 have hN : maxLen < 18446744073709551616 := by decide
 obtain ⟨b0, h0⟩ := G23x0_eq (first := first) (days := days) (before := before) (done := done) hN hs hr hn hl nb rb fb
 obtain ⟨b1, h1⟩ := G24x0_eq (first := first) (days := days) (before := before) (done := done) hN hs hr hn hl hd nb rb fb
 have h2 := G13x0_eq (first := first) (days := days) (before := before) (rules := rules) (done := done) hN hs hr hn hl nb rb fb
 unfold G6x0 F6x0
 rw [h0, h1, h2]
 simp only [bnd_eq, Option.isSome_some, getD_some, _root_.cond_true]
 unfold reasonR countR
 cases he : doneE first days before ses rules done != 0 with
 | true => simp only [_root_.cond_true, he, G6x0x13, F6x0x13, beq_self_eq_true, bnd_eq, told_ok, Option.isSome_some, getD_some]
 | false =>
  obtain ⟨hg, hdo⟩ := good_done hn he
  have hc : (allD first days before ses rules (fun _ => false) done []).1.1 = ways first days before ses rules done noOff := rfl
  simp only [_root_.cond_false]
  rw [hc]
  have hnn := ways_nonneg (first := first) (days := days) (before := before) (ses := ses) (rules := rules) (done := done) (off := noOff)
  by_cases hp : ways first days before ses rules done noOff > 0
  ·have hz : (ways first days before ses rules done noOff == 0) = false := by rw [beq_eq_false_iff_ne]; omega
   simp only [decide_eq_true hp, _root_.cond_true, bne_self_eq_false, _root_.cond_false, hz, beq_self_eq_true, Bool.not_true, Bool.not_false, told_ok, Option.isSome_some, getD_some]
  ·have hz : (ways first days before ses rules done noOff == 0) = true := by rw [beq_iff_eq]; omega
   have hw0 : ways first days before ses rules done noOff = 0 := by omega
   have h12 := hg.nrules
   have hM : maxLen = 9223372036854775807 := rfl
   simp only [decide_eq_false hp, _root_.cond_false, bne_self_eq_false, hz, beq_self_eq_true, Bool.not_true]
   generalize hmask : dropM (ways first days before ses rules done) rules.length 0 noOff = mask
   have hm0 : ways first days before ses rules done mask = 0 := by rw [← hmask]; exact dropM_zero hw0
   obtain ⟨b2, e1⟩ := G25x0_eq hN (rules := rules) (ks := keepN mask 0 rules) (fun k hk => by have := keepN_lt hk; omega) (Nat.le_trans keepN_len h12) hd (-1)
   rw [show (keepN mask 0 rules).filter (fun (k : Nat) => (k : Int) != -1) = keepN mask 0 rules by
    rw [List.filter_eq_self]
    intro k _
    simp, keep_at (L := rules) (l := rules) (w := 0) rfl] at e1
   have e2 := G13x0_eq hN (first := first) (days := days) (before := before) (rules := keepR mask 0 rules) hs (Nat.le_trans keepR_len (by omega)) hn hl nb b2 fb
   rw [countR_keep hn he, hm0] at e2
   have e3 := enough_loop (off := mask) hg hN hs hn hl hd he (fun k hk => by
    have h1 := (keepN_off hk).1
    have h2 := keepN_lt hk
    rw [← hmask] at h1 ⊢
    obtain ⟨o', h3, h4⟩ := dropM_kept (Nat.zero_le k) (by omega) h1
    have h5 := ways_nonneg (first := first) (days := days) (before := before) (ses := ses) (rules := rules) (done := done) (off := upd o' k true)
    refine ways_mono (off := upd o' k true) (fun j hj => ?_) (by omega)
    by_cases hjk : j = k
    ·subst hjk; exact upd_self _ _ _
    ·rw [upd_ne _ _ hjk] at hj ⊢
     exact h3 j hj) nb fb
   simp only [e1, e2, e3, Option.isSome_some, getD_some, _root_.cond_true, bne_self_eq_false, _root_.cond_false, inlB_inr, inrQ_inr, told_ok]
end
theorem call6 (dss : List (List D)) (h : All2 (ArgOk Try.prog 6) Try.f6.params.toList dss) : CallOk Try.prog 6 (argVs Try.prog Try.f6.params.toList dss) [] ([.c (.b true)], []) := by
 have hp : Try.f6.params.toList = [25, 26] := by kernel_rfl
 rw [hp] at h ⊢
 match dss, h with
 | [d0, d1], ⟨h0, h1, _⟩ =>
  obtain ⟨first, days, before, n, ses, n', rules, rfl, hs⟩ := arg25 h0
  obtain ⟨f, done, rfl, _, hl, _⟩ := arg26 h1
  refine ok6x0 18446744073709551616 _ _ (A6x0 18446744073709551616 [.i first, .i days, .i before, .b n, .l ses, .b n', .l rules, .b f, .l done]) (by kernel_rfl) _ ?_
  have e : A6x0 18446744073709551616 [.i first, .i days, .i before, .b n, .l ses, .b n', .l rules, .b f, .l done] = bnd (G6x0 18446744073709551616 first days before n ses n' rules f done) fun q => [(q.isSome, ([.c (.b (q.getD default))], []))] := by kernel_rfl
  rw [e, law6 n n' f hs.ls hs.lr hs.names hl fun r hr => rule_d (hs.er r hr)]
  rfl
theorem enough_lifted (os : Os) (started : os.Started) (H : Type) (enc : TypeId × Value → H) :
  ReturnsInHanded {} Try.checked os 6 .any (Rows.seasonReasonIsEnoughSpec.pre6 enc Try.prog Try.f6 Rows.seasonReasonIsEnoughRow.domain false) (Rows.seasonReasonIsEnoughSpec.post enc Try.prog Try.f6 false true false false) := by
 refine returnsInHanded_of_change (C := Try.checked) Try.own started (by kernel_rfl) Try.func6
  (ChangeSpec.witness6 (enc := enc) (C := Try.checked) false ⟨#[], #[.agg #[.int .i64 0, .int .i64 0, .int .i64 0, .slice none 0 0, .slice none 0 0], .slice none 0 0], []⟩ 8 (by kernel_rfl) (by kernel_rfl) (by kernel_rfl) (by kernel_rfl)) ?_
 intro W base args ds gs before hval hW _ _
 exact law_call (m := 6) (tb := 4) Try.laidOut rfl (by kernel_rfl) (by kernel_rfl) (by kernel_rfl) (fun l hl => by
  rw [show Try.f6.params.size = 2 by kernel_rfl] at hl
  match l, hl with
  | [_, _], _ => rfl) call6 hval hW
theorem enough_holds : Rows.SeasonReasonIsEnoughSaid :=
 OpenClaim.holds_of_wide 6 Try.f6 rfl rfl rfl rfl rfl rfl rfl ⟨rfl, rfl, rfl, rfl, rfl⟩ rfl rfl rfl rfl rfl (by kernel_rfl) Try.func6 (by kernel_rfl)
  (of_decide_eq_true (by kernel_rfl)) (by unfold Func.isWrapper; first | (rw [if_pos (by decide +kernel)]; kernel_rfl) | (rw [if_neg (by decide +kernel)]; exact ⟨rfl, rfl⟩))
  (fun os started H enc _ => enough_lifted os started H enc)
end Go.Proofs.Ytefmjfcdgadggaa

