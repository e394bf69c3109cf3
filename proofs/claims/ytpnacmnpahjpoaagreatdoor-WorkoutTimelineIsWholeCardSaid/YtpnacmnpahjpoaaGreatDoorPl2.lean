/- A part of a proof of a law: its last steps. -/
import Derived.Test.YtpnacmnpahjpoaaGreatDoorPl1
namespace Go.Proofs.YtpnacmnpahjpoaaGreatDoor
open Go Go.AM
set_option maxRecDepth 100000
set_option maxHeartbeats 4000000
theorem named9 : Tryz.pinned.checked.prog.funcNamed "harrier/harrierlaw7.WorkoutTimelineIsWhole" = some 9 := by kernel_rfl
theorem joined9 : joinedFacts Tryz.pinned.checked.prog 9 Tryz.f9 (OpenSpec.ofChange Rows.workoutTimelineIsWholeSpec).bare Rows.workoutTimelineIsWholeRow = true := by
 simp only [joinedFacts, Bool.and_eq_true]
 repeat' apply And.intro
 all_goals (as_aux_lemma => kernel_rfl)
theorem said : Rows.WorkoutTimelineIsWholeSaid :=
 OpenClaim.holds_of_cond 9 Tryz.f9 rfl rfl rfl rfl rfl rfl rfl ⟨rfl, rfl, rfl, rfl, rfl⟩ rfl rfl rfl rfl rfl named9 Tryz.func9 joined9
  (of_decide_eq_true (by as_aux_lemma => kernel_rfl)) (by unfold Func.isWrapper; first | (rw [if_pos (by decide +kernel)]; kernel_rfl) | (rw [if_neg (by decide +kernel)]; exact ⟨rfl, rfl⟩))
  (fun os started H enc _ F => by rw [OpenClaim.pre_eq_preRow]; exact lifted os started H enc F)
end Go.Proofs.YtpnacmnpahjpoaaGreatDoor

