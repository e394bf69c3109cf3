/- A part of a proof of a law: its last steps. -/
import Derived.Test.YtfkkcdapcgimlaaGreatDoorPl2
namespace Go.Proofs.YtfkkcdapcgimlaaGreatDoor
open Go Go.AM
set_option maxRecDepth 100000
set_option maxHeartbeats 4000000
theorem f35 (f : FuncId) (fn : Func) (hf : Tryz.pinned.checked.prog.funcNamed "harrier/harrierlaw12.AskMoreEarnsMore" = some f) (hfn : Tryz.pinned.checked.prog.funcs[f]? = some fn) :
  true = Tryz.pinned.checked.prog.looks [] ∧ ∀ (j : Nat) t, fn.params[j]? = some t → Tryz.pinned.checked.prog.wantsStandIn t = false := by
 obtain rfl : f = 5 := Option.some.inj ((show Tryz.prog.funcNamed "harrier/harrierlaw12.AskMoreEarnsMore" = some 5 by kernel_rfl).symm.trans hf) |>.symm
 obtain rfl : fn = Tryz.f5 := (Option.some.inj (Tryz.func5.symm.trans hfn)).symm
 refine ⟨by as_aux_lemma => kernel_rfl, fun j t ht => ?_⟩
 have hp : Tryz.f5.params = #[42, 28, 40] := by kernel_rfl
 rw [hp] at ht
 match j, ht with
 | 0, ht =>
  obtain rfl : 42 = t := by simpa using ht
  exact (show Tryz.prog.wantsStandIn 42 = false by kernel_rfl)
 | 1, ht =>
  obtain rfl : 28 = t := by simpa using ht
  exact (show Tryz.prog.wantsStandIn 28 = false by kernel_rfl)
 | 2, ht =>
  obtain rfl : 40 = t := by simpa using ht
  exact (show Tryz.prog.wantsStandIn 40 = false by kernel_rfl)
 | j + 3, ht => simp at ht
theorem more_holds : Rows.AskMoreEarnsMoreUptoCardSaid :=
 Claim7.holds_tied_plain_at .later [] _ _ _ _ e3R (fun _ h => by cases h) (by as_aux_lemma => kernel_rfl) (fun _ h => by cases h) askMoreEarnsMoreUpto_row_tie rfl ⟨rfl, rfl⟩ (by as_aux_lemma => kernel_rfl) rfl f35 (by as_aux_lemma => kernel_rfl)
end Go.Proofs.YtfkkcdapcgimlaaGreatDoor

