/- A part of a proof of a law: its last steps. -/
import Derived.Test.YtpnacmnpahjpoaaGreatDoorPl2
namespace Go.Proofs.YtpnacmnpahjpoaaGreatDoor
open Go Go.AM
set_option maxRecDepth 100000
set_option maxHeartbeats 4000000
theorem plain5 (f : FuncId) (fn : Func) (hf : Tryz.pinned.checked.prog.funcNamed "harrier/harrierlaw7.WorkoutCostsGrow" = some f) (hfn : Tryz.pinned.checked.prog.funcs[f]? = some fn) :
  true = Tryz.pinned.checked.prog.looks [] ∧ ∀ (j : Nat) t, fn.params[j]? = some t → Tryz.pinned.checked.prog.wantsStandIn t = false := by
 obtain rfl : f = 5 := Option.some.inj (named5.symm.trans hf) |>.symm
 obtain rfl : fn = Tryz.f5 := (Option.some.inj (Tryz.func5.symm.trans hfn)).symm
 refine ⟨by as_aux_lemma => kernel_rfl, fun j t ht => ?_⟩
 have hp : Tryz.f5.params = #[39, 3, 3] := by kernel_rfl
 rw [hp] at ht
 match j, ht with
 | 0, ht => (obtain rfl : 39 = t := by simpa using ht); exact (show Tryz.prog.wantsStandIn 39 = false by kernel_rfl)
 | 1, ht => (obtain rfl : 3 = t := by simpa using ht); exact (show Tryz.prog.wantsStandIn 3 = false by kernel_rfl)
 | 2, ht => (obtain rfl : 3 = t := by simpa using ht); exact (show Tryz.prog.wantsStandIn 3 = false by kernel_rfl)
 | j + 3, ht => simp at ht
theorem grow_holds : Rows.WorkoutCostsGrowCardSaid :=
 Claim7.holds_tied_plain_at .later [] _ _ _ _ said (fun _ h => by cases h) (by as_aux_lemma => kernel_rfl) (fun _ h => by cases h) workoutCostsGrow_row_tie rfl ⟨rfl, rfl⟩ (by as_aux_lemma => kernel_rfl) rfl plain5 (by as_aux_lemma => kernel_rfl)
end Go.Proofs.YtpnacmnpahjpoaaGreatDoor

