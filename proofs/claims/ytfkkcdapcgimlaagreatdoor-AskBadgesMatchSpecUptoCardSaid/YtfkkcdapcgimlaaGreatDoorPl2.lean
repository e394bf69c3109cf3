/- A part of a proof of a law: its last steps. -/
import Derived.Test.YtfkkcdapcgimlaaGreatDoorPl1
namespace Go.Proofs.YtfkkcdapcgimlaaGreatDoor
open Go Go.AM
set_option maxRecDepth 100000
set_option maxHeartbeats 4000000
theorem f2G : Tryz.pinned.checked.prog.funcNamed "harrier/harrierlaw12.AskBadgesMatchSpec" = some 6 := by kernel_rfl
theorem e71 : joinedFacts Tryz.pinned.checked.prog 6 Tryz.f6 (Rows.OpenSpec.upto Rows.askBadgesMatchSpecSpec).bare Rows.askBadgesMatchSpecUptoRow = true := by
 simp only [joinedFacts, Bool.and_eq_true]
 repeat' apply And.intro
 all_goals (as_aux_lemma => kernel_rfl)
theorem e20 : Rows.AskBadgesMatchSpecUptoSaid :=
 OpenClaim.holds_of_cond 6 Tryz.f6 rfl rfl rfl rfl rfl rfl rfl ⟨rfl, rfl, rfl, rfl, rfl⟩ rfl rfl rfl rfl rfl f2G Tryz.func6 e71
  (of_decide_eq_true (by as_aux_lemma => kernel_rfl)) (by unfold Func.isWrapper; first | (rw [if_pos (by decide +kernel)]; kernel_rfl) | (rw [if_neg (by decide +kernel)]; exact ⟨rfl, rfl⟩))
  (fun os started H enc _ F => by rw [OpenClaim.pre_eq_preRow]; exact d3q os started H enc F)
end Go.Proofs.YtfkkcdapcgimlaaGreatDoor

