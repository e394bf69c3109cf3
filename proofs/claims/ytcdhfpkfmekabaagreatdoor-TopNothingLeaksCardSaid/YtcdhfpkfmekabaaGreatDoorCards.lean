/-
  DERIVED. GIVEN WITH THE SEED: THE CARDS: each row of YtcdhfpkfmekabaaGreatDoorRows.lean that lists a variable, with what it lists TIED to the program's text (the seventh form; the later family's looks); each row that meets fmt, with fmt's text TOLD by the authors' own Lean function (tested against real Go, not proved from fmt's source: count such statements apart). THE CARD IS WHAT COUNTS. Prove the row's statement (the work); the ties are given (YtcdhfpkfmekabaaGreatDoorTie.lean); close each card by the builder's one call (the guide's Derived/Test/ToyasCard.lean, 'card_holds'). Laid BY PROGRAM, IN A SANDBOX (cutbox-door.mjs). By AI agents, Wed Nov 11 2026. No macro, syntax, notation, axiom, sorry.
-/
import Derived.Test.YtcdhfpkfmekabaaGreatDoorRows
import GoSem.ClaimSeven
namespace Go.Proofs.YtcdhfpkfmekabaaGreatDoor
namespace Rows

/-- THE TIED CARD OF 'harriertop.TopNothingLeaks'. -/
def topNothingLeaksCard : Claim7 := { stood := { row := topNothingLeaksRow, standIns := [], harness := (true, "bc8887453cf107c63d545cdff812a850192ea09aa833f131853412df26925e9f"), looks := true }, kinds := [], alts := [], laidByText := true, laidKinds := [.data, .data, .data, .sentinel, .sentinel], laidTests := true, laidLooks := .later }
def TopNothingLeaksCardSaid : Prop := Claim7.holds Tryz.pinned (.plain (OpenSpec.ofChange topNothingLeaksSpec)) topNothingLeaksCard

/-- THE SECOND FORM's CARD OF 'harriertop.TopNothingLeaks'. -/
def topNothingLeaksUptoCard : Claim7 := { stood := { row := topNothingLeaksUptoRow, standIns := [], harness := (true, "bc8887453cf107c63d545cdff812a850192ea09aa833f131853412df26925e9f"), looks := true }, kinds := [], alts := [], laidByText := true, laidKinds := [.data, .data, .data, .sentinel, .sentinel], laidTests := true, laidLooks := .later }
def TopNothingLeaksUptoCardSaid : Prop := Claim7.holds Tryz.pinned (.plain (OpenSpec.upto topNothingLeaksSpec)) topNothingLeaksUptoCard
end Rows
end Go.Proofs.YtcdhfpkfmekabaaGreatDoor
