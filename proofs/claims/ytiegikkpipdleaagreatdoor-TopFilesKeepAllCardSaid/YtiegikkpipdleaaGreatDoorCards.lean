/-
  DERIVED. GIVEN WITH THE SEED: THE CARDS: each row of YtiegikkpipdleaaGreatDoorRows.lean that lists a variable, with what it lists TIED to the program's text (the seventh form; the later family's looks); each row that meets fmt, with fmt's text TOLD by the authors' own Lean function (tested against real Go, not proved from fmt's source: count such statements apart). THE CARD IS WHAT COUNTS. Prove the row's statement (the work); the ties are given (YtiegikkpipdleaaGreatDoorTie.lean); close each card by the builder's one call (the guide's Derived/Test/ToyasCard.lean, 'card_holds'). Laid BY PROGRAM, IN A SANDBOX (cutbox-door.mjs). By AI agents, Wed Nov 11 2026. No macro, syntax, notation, axiom, sorry.
-/
import Derived.Test.YtiegikkpipdleaaGreatDoorRows
import GoSem.ClaimSeven
namespace Go.Proofs.YtiegikkpipdleaaGreatDoor
namespace Rows

/-- THE TIED CARD OF 'harriertop.TopFilesKeepAll'. -/
def topFilesKeepAllCard : Claim7 := { stood := { row := topFilesKeepAllRow, standIns := [], harness := (true, "8db7954775aa48dd3d36ea875eb10545044ec20bc140ae3c7070ae890282d644"), looks := true }, kinds := [], alts := [], laidByText := true, laidKinds := [.data, .data, .data, .sentinel, .sentinel], laidTests := true, laidLooks := .later }
def TopFilesKeepAllCardSaid : Prop := Claim7.holds Tryz.pinned (.plain (OpenSpec.ofChange topFilesKeepAllSpec)) topFilesKeepAllCard

/-- THE SECOND FORM's CARD OF 'harriertop.TopFilesKeepAll'. -/
def topFilesKeepAllUptoCard : Claim7 := { stood := { row := topFilesKeepAllUptoRow, standIns := [], harness := (true, "8db7954775aa48dd3d36ea875eb10545044ec20bc140ae3c7070ae890282d644"), looks := true }, kinds := [], alts := [], laidByText := true, laidKinds := [.data, .data, .data, .sentinel, .sentinel], laidTests := true, laidLooks := .later }
def TopFilesKeepAllUptoCardSaid : Prop := Claim7.holds Tryz.pinned (.plain (OpenSpec.upto topFilesKeepAllSpec)) topFilesKeepAllUptoCard
end Rows
end Go.Proofs.YtiegikkpipdleaaGreatDoor
