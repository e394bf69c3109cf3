/-
  DERIVED. GIVEN WITH THE SEED: THE CARDS: each row of YthifhnmfecjjcaaGreatDoorRows.lean that lists a variable, with what it lists TIED to the program's text (the seventh form; the later family's looks); each row that meets fmt, with fmt's text TOLD by the authors' own Lean function (tested against real Go, not proved from fmt's source: count such statements apart). THE CARD IS WHAT COUNTS. Prove the row's statement (the work); the ties are given (YthifhnmfecjjcaaGreatDoorTie.lean); close each card by the builder's one call (the guide's Derived/Test/ToyasCard.lean, 'card_holds'). Laid BY PROGRAM, IN A SANDBOX (cutbox-door.mjs). By AI agents, Wed Nov 11 2026. No macro, syntax, notation, axiom, sorry.
-/
import Derived.Test.YthifhnmfecjjcaaGreatDoorRows
import GoSem.ClaimSeven
namespace Go.Proofs.YthifhnmfecjjcaaGreatDoor
namespace Rows

/-- THE TIED CARD OF 'harrierlaw2.RecordParsesMatchSpec'. -/
def recordParsesMatchSpecCard : Claim7 := { stood := { row := recordParsesMatchSpecRow, standIns := [], harness := (true, "a2363a20689679342cfe40c0ae310dea4941d1bc43463202ed32c92db89829ba"), looks := true }, kinds := [], alts := [], laidByText := true, laidKinds := [.data, .data, .data, .data, .sentinel, .sentinel, .pinned], laidTests := true, laidLooks := .later }
def RecordParsesMatchSpecCardSaid : Prop := Claim7.holds Tryz.pinned (.plain (OpenSpec.ofChange recordParsesMatchSpecSpec)) recordParsesMatchSpecCard

/-- THE TIED CARD OF 'harrierlaw2.RecordTextsComeBack'. -/
def recordTextsComeBackCard : Claim7 := { stood := { row := recordTextsComeBackRow, standIns := [], harness := (true, "a2363a20689679342cfe40c0ae310dea4941d1bc43463202ed32c92db89829ba"), looks := true }, kinds := [], alts := [], laidByText := true, laidKinds := [.data, .data, .data, .data, .sentinel, .sentinel, .pinned], laidTests := true, laidLooks := .later }
def RecordTextsComeBackCardSaid : Prop := Claim7.holds Tryz.pinned (.plain (OpenSpec.ofChange recordTextsComeBackSpec)) recordTextsComeBackCard

/-- THE SECOND FORM's CARD OF 'harrierlaw2.RecordParsesMatchSpec'. -/
def recordParsesMatchSpecUptoCard : Claim7 := { stood := { row := recordParsesMatchSpecUptoRow, standIns := [], harness := (true, "a2363a20689679342cfe40c0ae310dea4941d1bc43463202ed32c92db89829ba"), looks := true }, kinds := [], alts := [], laidByText := true, laidKinds := [.data, .data, .data, .data, .sentinel, .sentinel, .pinned], laidTests := true, laidLooks := .later }
def RecordParsesMatchSpecUptoCardSaid : Prop := Claim7.holds Tryz.pinned (.plain (OpenSpec.upto recordParsesMatchSpecSpec)) recordParsesMatchSpecUptoCard

/-- THE SECOND FORM's CARD OF 'harrierlaw2.RecordTextsComeBack'. -/
def recordTextsComeBackUptoCard : Claim7 := { stood := { row := recordTextsComeBackUptoRow, standIns := [], harness := (true, "a2363a20689679342cfe40c0ae310dea4941d1bc43463202ed32c92db89829ba"), looks := true }, kinds := [], alts := [], laidByText := true, laidKinds := [.data, .data, .data, .data, .sentinel, .sentinel, .pinned], laidTests := true, laidLooks := .later }
def RecordTextsComeBackUptoCardSaid : Prop := Claim7.holds Tryz.pinned (.plain (OpenSpec.upto recordTextsComeBackSpec)) recordTextsComeBackUptoCard
end Rows
end Go.Proofs.YthifhnmfecjjcaaGreatDoor
