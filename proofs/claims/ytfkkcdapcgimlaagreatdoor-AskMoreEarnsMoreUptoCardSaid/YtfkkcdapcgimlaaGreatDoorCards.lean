/-
  DERIVED. GIVEN WITH THE SEED: THE CARDS: each row of YtfkkcdapcgimlaaGreatDoorRows.lean that lists a variable, with what it lists TIED to the program's text (the seventh form; the later family's looks); each row that meets fmt, with fmt's text TOLD by the authors' own Lean function (tested against real Go, not proved from fmt's source: count such statements apart). THE CARD IS WHAT COUNTS. Prove the row's statement (the work); the ties are given (YtfkkcdapcgimlaaGreatDoorTie.lean); close each card by the builder's one call (the guide's Derived/Test/ToyasCard.lean, 'card_holds'). Laid BY PROGRAM, IN A SANDBOX (cutbox-door.mjs). By AI agents, Wed Nov 11 2026. No macro, syntax, notation, axiom, sorry.
-/
import Derived.Test.YtfkkcdapcgimlaaGreatDoorRows
import GoSem.ClaimSeven
namespace Go.Proofs.YtfkkcdapcgimlaaGreatDoor
namespace Rows

/-- THE TIED CARD OF 'harrierlaw12.AskAnswersMatchSpec'. -/
def askAnswersMatchSpecCard : Claim7 := { stood := { row := askAnswersMatchSpecRow, standIns := [], harness := (true, "f8f4bcac878bcf76004dca2875fc75a3e0f4cc1d7a13e2b81f6c28d671dab616"), looks := true }, kinds := [], alts := [], laidByText := true, laidKinds := [.data, .data, .data, .sentinel, .sentinel], laidTests := true, laidLooks := .later }
def AskAnswersMatchSpecCardSaid : Prop := Claim7.holds Tryz.pinned (.plain (OpenSpec.ofChange askAnswersMatchSpecSpec)) askAnswersMatchSpecCard

/-- THE TIED CARD OF 'harrierlaw12.AskAnswersDoNotDependOnOrder'. -/
def askAnswersDoNotDependOnOrderCard : Claim7 := { stood := { row := askAnswersDoNotDependOnOrderRow, standIns := [], harness := (true, "f8f4bcac878bcf76004dca2875fc75a3e0f4cc1d7a13e2b81f6c28d671dab616"), looks := true }, kinds := [], alts := [], laidByText := true, laidKinds := [.data, .data, .data, .sentinel, .sentinel], laidTests := true, laidLooks := .later }
def AskAnswersDoNotDependOnOrderCardSaid : Prop := Claim7.holds Tryz.pinned (.plain (OpenSpec.ofChange askAnswersDoNotDependOnOrderSpec)) askAnswersDoNotDependOnOrderCard

/-- THE TIED CARD OF 'harrierlaw12.AskMoreEarnsMore'. -/
def askMoreEarnsMoreCard : Claim7 := { stood := { row := askMoreEarnsMoreRow, standIns := [], harness := (true, "f8f4bcac878bcf76004dca2875fc75a3e0f4cc1d7a13e2b81f6c28d671dab616"), looks := true }, kinds := [], alts := [], laidByText := true, laidKinds := [.data, .data, .data, .sentinel, .sentinel], laidTests := true, laidLooks := .later }
def AskMoreEarnsMoreCardSaid : Prop := Claim7.holds Tryz.pinned (.plain (OpenSpec.ofChange askMoreEarnsMoreSpec)) askMoreEarnsMoreCard

/-- THE TIED CARD OF 'harrierlaw12.AskBadgesMatchSpec'. -/
def askBadgesMatchSpecCard : Claim7 := { stood := { row := askBadgesMatchSpecRow, standIns := [], harness := (true, "f8f4bcac878bcf76004dca2875fc75a3e0f4cc1d7a13e2b81f6c28d671dab616"), looks := true }, kinds := [], alts := [], laidByText := true, laidKinds := [.data, .data, .data, .sentinel, .sentinel], laidTests := true, laidLooks := .later }
def AskBadgesMatchSpecCardSaid : Prop := Claim7.holds Tryz.pinned (.plain (OpenSpec.ofChange askBadgesMatchSpecSpec)) askBadgesMatchSpecCard

/-- THE SECOND FORM's CARD OF 'harrierlaw12.AskAnswersMatchSpec'. -/
def askAnswersMatchSpecUptoCard : Claim7 := { stood := { row := askAnswersMatchSpecUptoRow, standIns := [], harness := (true, "f8f4bcac878bcf76004dca2875fc75a3e0f4cc1d7a13e2b81f6c28d671dab616"), looks := true }, kinds := [], alts := [], laidByText := true, laidKinds := [.data, .data, .data, .sentinel, .sentinel], laidTests := true, laidLooks := .later }
def AskAnswersMatchSpecUptoCardSaid : Prop := Claim7.holds Tryz.pinned (.plain (OpenSpec.upto askAnswersMatchSpecSpec)) askAnswersMatchSpecUptoCard

/-- THE SECOND FORM's CARD OF 'harrierlaw12.AskAnswersDoNotDependOnOrder'. -/
def askAnswersDoNotDependOnOrderUptoCard : Claim7 := { stood := { row := askAnswersDoNotDependOnOrderUptoRow, standIns := [], harness := (true, "f8f4bcac878bcf76004dca2875fc75a3e0f4cc1d7a13e2b81f6c28d671dab616"), looks := true }, kinds := [], alts := [], laidByText := true, laidKinds := [.data, .data, .data, .sentinel, .sentinel], laidTests := true, laidLooks := .later }
def AskAnswersDoNotDependOnOrderUptoCardSaid : Prop := Claim7.holds Tryz.pinned (.plain (OpenSpec.upto askAnswersDoNotDependOnOrderSpec)) askAnswersDoNotDependOnOrderUptoCard

/-- THE SECOND FORM's CARD OF 'harrierlaw12.AskMoreEarnsMore'. -/
def askMoreEarnsMoreUptoCard : Claim7 := { stood := { row := askMoreEarnsMoreUptoRow, standIns := [], harness := (true, "f8f4bcac878bcf76004dca2875fc75a3e0f4cc1d7a13e2b81f6c28d671dab616"), looks := true }, kinds := [], alts := [], laidByText := true, laidKinds := [.data, .data, .data, .sentinel, .sentinel], laidTests := true, laidLooks := .later }
def AskMoreEarnsMoreUptoCardSaid : Prop := Claim7.holds Tryz.pinned (.plain (OpenSpec.upto askMoreEarnsMoreSpec)) askMoreEarnsMoreUptoCard

/-- THE SECOND FORM's CARD OF 'harrierlaw12.AskBadgesMatchSpec'. -/
def askBadgesMatchSpecUptoCard : Claim7 := { stood := { row := askBadgesMatchSpecUptoRow, standIns := [], harness := (true, "f8f4bcac878bcf76004dca2875fc75a3e0f4cc1d7a13e2b81f6c28d671dab616"), looks := true }, kinds := [], alts := [], laidByText := true, laidKinds := [.data, .data, .data, .sentinel, .sentinel], laidTests := true, laidLooks := .later }
def AskBadgesMatchSpecUptoCardSaid : Prop := Claim7.holds Tryz.pinned (.plain (OpenSpec.upto askBadgesMatchSpecSpec)) askBadgesMatchSpecUptoCard
end Rows
end Go.Proofs.YtfkkcdapcgimlaaGreatDoor
