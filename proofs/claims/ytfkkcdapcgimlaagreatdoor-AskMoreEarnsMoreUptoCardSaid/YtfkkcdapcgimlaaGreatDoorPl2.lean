/- A part of a proof of a law: its last steps. -/
import Derived.Test.YtfkkcdapcgimlaaGreatDoorPl1
namespace Go.Proofs.YtfkkcdapcgimlaaGreatDoor
open Go Go.AM
set_option maxRecDepth 100000
set_option maxHeartbeats 4000000
theorem f34 : Tryz.pinned.checked.prog.funcNamed "harrier/harrierlaw12.AskMoreEarnsMore" = some 5 := by kernel_rfl
theorem e86 : joinedFacts Tryz.pinned.checked.prog 5 Tryz.f5 (Rows.OpenSpec.upto Rows.askMoreEarnsMoreSpec).bare Rows.askMoreEarnsMoreUptoRow = true := by
 simp only [joinedFacts, f5U]
 repeat' apply And.intro
 all_goals (as_aux_lemma => kernel_rfl)
theorem e3R : Rows.AskMoreEarnsMoreUptoSaid :=
 OpenClaim.holds_of_cond 5 Tryz.f5 rfl rfl rfl rfl rfl rfl rfl ⟨rfl, rfl, rfl, rfl, rfl⟩ rfl rfl rfl rfl rfl f34 Tryz.func5 e86
  (of_decide_eq_true (by as_aux_lemma => kernel_rfl)) (by unfold Func.isWrapper; first | (rw [if_pos (by decide +kernel)]; kernel_rfl) | (rw [if_neg (by decide +kernel)]; exact ⟨rfl, rfl⟩))
  (fun os started H enc _ F => by rw [OpenClaim.pre_eq_preRow]; exact d38 os started H enc F)
end Go.Proofs.YtfkkcdapcgimlaaGreatDoor

