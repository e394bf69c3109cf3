/- The card of statement 42. -/
import Derived.Test.YtmhaghcfopdifaaGreatDoorPl2
namespace Go.Proofs.YtmhaghcfopdifaaGreatDoor
open Go Go.AM
set_option maxRecDepth 100000
set_option maxHeartbeats 4000000
theorem plain (f : FuncId) (fn : Func) (hf : Tryz.pinned.checked.prog.funcNamed "harrier/harrierlaw12.AskCondsMatchSpec" = some f) (hfn : Tryz.pinned.checked.prog.funcs[f]? = some fn) :
  true = Tryz.pinned.checked.prog.looks [] ∧ ∀ (j : Nat) t, fn.params[j]? = some t → Tryz.pinned.checked.prog.wantsStandIn t = false := by
 obtain rfl : f = 7 := Option.some.inj ((show Tryz.prog.funcNamed "harrier/harrierlaw12.AskCondsMatchSpec" = some 7 by kernel_rfl).symm.trans hf) |>.symm
 obtain rfl : fn = Tryz.f7 := (Option.some.inj (Tryz.func7.symm.trans hfn)).symm
 refine ⟨by as_aux_lemma => kernel_rfl, fun j t ht => ?_⟩
 have hp : Tryz.f7.params = #[24, 44] := by kernel_rfl
 rw [hp] at ht
 match j, ht with
 | 0, ht => (obtain rfl : 24 = t := by simpa using ht); exact (show Tryz.prog.wantsStandIn 24 = false by kernel_rfl)
 | 1, ht => (obtain rfl : 44 = t := by simpa using ht); exact (show Tryz.prog.wantsStandIn 44 = false by kernel_rfl)
 | j + 2, ht => simp at ht
theorem conds_holds : Rows.AskCondsMatchSpecUptoCardSaid :=
 Claim7.holds_tied_plain_at .later [] _ _ _ _ saidUpto (fun _ h => by cases h) (by as_aux_lemma => kernel_rfl) (fun _ h => by cases h) askCondsMatchSpecUpto_row_tie rfl ⟨rfl, rfl⟩ (by as_aux_lemma => kernel_rfl) rfl plain (by as_aux_lemma => kernel_rfl)
end Go.Proofs.YtmhaghcfopdifaaGreatDoor

