/- A part of a proof of a law: its last steps. -/
import Derived.Test.YtpnacmnpahjpoaaGreatDoorPl2
namespace Go.Proofs.YtpnacmnpahjpoaaGreatDoor
open Go Go.AM
set_option maxRecDepth 100000
set_option maxHeartbeats 4000000
theorem plain9 (f : FuncId) (fn : Func) (hf : Tryz.pinned.checked.prog.funcNamed "harrier/harrierlaw7.WorkoutTimelineIsWhole" = some f) (hfn : Tryz.pinned.checked.prog.funcs[f]? = some fn) :
  true = Tryz.pinned.checked.prog.looks [] ∧ ∀ (j : Nat) t, fn.params[j]? = some t → Tryz.pinned.checked.prog.wantsStandIn t = false := by
 obtain rfl : f = 9 := Option.some.inj (named9.symm.trans hf) |>.symm
 obtain rfl : fn = Tryz.f9 := (Option.some.inj (Tryz.func9.symm.trans hfn)).symm
 refine ⟨by as_aux_lemma => kernel_rfl, fun j t ht => ?_⟩
 have hp : Tryz.f9.params = #[24, 30, 3] := by kernel_rfl
 rw [hp] at ht
 match j, ht with
 | 0, ht => (obtain rfl : 24 = t := by simpa using ht); exact (show Tryz.prog.wantsStandIn 24 = false by kernel_rfl)
 | 1, ht => (obtain rfl : 30 = t := by simpa using ht); exact (show Tryz.prog.wantsStandIn 30 = false by kernel_rfl)
 | 2, ht => (obtain rfl : 3 = t := by simpa using ht); exact (show Tryz.prog.wantsStandIn 3 = false by kernel_rfl)
 | j + 3, ht => simp at ht
theorem whole_holds : Rows.WorkoutTimelineIsWholeCardSaid :=
 Claim7.holds_tied_plain_at .later [] _ _ _ _ said (fun _ h => by cases h) (by as_aux_lemma => kernel_rfl) (fun _ h => by cases h) workoutTimelineIsWhole_row_tie rfl ⟨rfl, rfl⟩ (by as_aux_lemma => kernel_rfl) rfl plain9 (by as_aux_lemma => kernel_rfl)
end Go.Proofs.YtpnacmnpahjpoaaGreatDoor

