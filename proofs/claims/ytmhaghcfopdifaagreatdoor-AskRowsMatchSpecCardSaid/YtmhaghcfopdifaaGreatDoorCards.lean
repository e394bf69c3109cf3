/-
  DERIVED. GIVEN WITH THE SEED: THE CARDS: each row of YtmhaghcfopdifaaGreatDoorRows.lean that lists a variable, with what it lists TIED to the program's text (the seventh form; the later family's looks); each row that meets fmt, with fmt's text TOLD by the authors' own Lean function (tested against real Go, not proved from fmt's source: count such statements apart). THE CARD IS WHAT COUNTS. Prove the row's statement (the work); the ties are given (YtmhaghcfopdifaaGreatDoorTie.lean); close each card by the builder's one call (the guide's Derived/Test/ToyasCard.lean, 'card_holds'). Laid BY PROGRAM, IN A SANDBOX (cutbox-door.mjs). By AI agents, Wed Nov 11 2026. No macro, syntax, notation, axiom, sorry.
-/
import Derived.Test.YtmhaghcfopdifaaGreatDoorRows
import GoSem.ClaimSeven
namespace Go.Proofs.YtmhaghcfopdifaaGreatDoor
namespace Rows

/-- THE TIED CARD OF 'harrierlaw12.AskCondTextsComeBack'. -/
def askCondTextsComeBackCard : Claim7 := { stood := { row := askCondTextsComeBackRow, standIns := [], harness := (true, "338a1e0f0eb019e45ac445c5fc7c250488972872189fa31b2a4d5f922e0850ce"), looks := true }, kinds := [], alts := [], laidByText := true, laidKinds := [.data, .data, .data, .sentinel, .sentinel], laidTests := true, laidLooks := .later }
def AskCondTextsComeBackCardSaid : Prop := Claim7.holds Tryz.pinned (.plain (OpenSpec.ofChange askCondTextsComeBackSpec)) askCondTextsComeBackCard

/-- THE TIED CARD OF 'harrierlaw12.AskCondReadsMatchSpec'. -/
def askCondReadsMatchSpecCard : Claim7 := { stood := { row := askCondReadsMatchSpecRow, standIns := [], harness := (true, "338a1e0f0eb019e45ac445c5fc7c250488972872189fa31b2a4d5f922e0850ce"), looks := true }, kinds := [], alts := [], laidByText := true, laidKinds := [.data, .data, .data, .sentinel, .sentinel], laidTests := true, laidLooks := .later }
def AskCondReadsMatchSpecCardSaid : Prop := Claim7.holds Tryz.pinned (.plain (OpenSpec.ofChange askCondReadsMatchSpecSpec)) askCondReadsMatchSpecCard

/-- THE TIED CARD OF 'harrierlaw12.AskQueryReadsMatchSpec'. -/
def askQueryReadsMatchSpecCard : Claim7 := { stood := { row := askQueryReadsMatchSpecRow, standIns := [], harness := (true, "338a1e0f0eb019e45ac445c5fc7c250488972872189fa31b2a4d5f922e0850ce"), looks := true }, kinds := [], alts := [], laidByText := true, laidKinds := [.data, .data, .data, .sentinel, .sentinel], laidTests := true, laidLooks := .later }
def AskQueryReadsMatchSpecCardSaid : Prop := Claim7.holds Tryz.pinned (.plain (OpenSpec.ofChange askQueryReadsMatchSpecSpec)) askQueryReadsMatchSpecCard

/-- THE TIED CARD OF 'harrierlaw12.AskQueryTextsComeBack'. -/
def askQueryTextsComeBackCard : Claim7 := { stood := { row := askQueryTextsComeBackRow, standIns := [], harness := (true, "338a1e0f0eb019e45ac445c5fc7c250488972872189fa31b2a4d5f922e0850ce"), looks := true }, kinds := [], alts := [], laidByText := true, laidKinds := [.data, .data, .data, .sentinel, .sentinel], laidTests := true, laidLooks := .later }
def AskQueryTextsComeBackCardSaid : Prop := Claim7.holds Tryz.pinned (.plain (OpenSpec.ofChange askQueryTextsComeBackSpec)) askQueryTextsComeBackCard

/-- THE TIED CARD OF 'harrierlaw12.AskCondsMatchSpec'. -/
def askCondsMatchSpecCard : Claim7 := { stood := { row := askCondsMatchSpecRow, standIns := [], harness := (true, "338a1e0f0eb019e45ac445c5fc7c250488972872189fa31b2a4d5f922e0850ce"), looks := true }, kinds := [], alts := [], laidByText := true, laidKinds := [.data, .data, .data, .sentinel, .sentinel], laidTests := true, laidLooks := .later }
def AskCondsMatchSpecCardSaid : Prop := Claim7.holds Tryz.pinned (.plain (OpenSpec.ofChange askCondsMatchSpecSpec)) askCondsMatchSpecCard

/-- THE TIED CARD OF 'harrierlaw12.AskRowsMatchSpec'. -/
def askRowsMatchSpecCard : Claim7 := { stood := { row := askRowsMatchSpecRow, standIns := [], harness := (true, "338a1e0f0eb019e45ac445c5fc7c250488972872189fa31b2a4d5f922e0850ce"), looks := true }, kinds := [], alts := [], laidByText := true, laidKinds := [.data, .data, .data, .sentinel, .sentinel], laidTests := true, laidLooks := .later }
def AskRowsMatchSpecCardSaid : Prop := Claim7.holds Tryz.pinned (.plain (OpenSpec.ofChange askRowsMatchSpecSpec)) askRowsMatchSpecCard

/-- THE TIED CARD OF 'harrierlaw12.AskAnswersMatchSpec'. -/
def askAnswersMatchSpecCard : Claim7 := { stood := { row := askAnswersMatchSpecRow, standIns := [], harness := (true, "338a1e0f0eb019e45ac445c5fc7c250488972872189fa31b2a4d5f922e0850ce"), looks := true }, kinds := [], alts := [], laidByText := true, laidKinds := [.data, .data, .data, .sentinel, .sentinel], laidTests := true, laidLooks := .later }
def AskAnswersMatchSpecCardSaid : Prop := Claim7.holds Tryz.pinned (.plain (OpenSpec.ofChange askAnswersMatchSpecSpec)) askAnswersMatchSpecCard

/-- THE TIED CARD OF 'harrierlaw12.AskAnswersDoNotDependOnOrder'. -/
def askAnswersDoNotDependOnOrderCard : Claim7 := { stood := { row := askAnswersDoNotDependOnOrderRow, standIns := [], harness := (true, "338a1e0f0eb019e45ac445c5fc7c250488972872189fa31b2a4d5f922e0850ce"), looks := true }, kinds := [], alts := [], laidByText := true, laidKinds := [.data, .data, .data, .sentinel, .sentinel], laidTests := true, laidLooks := .later }
def AskAnswersDoNotDependOnOrderCardSaid : Prop := Claim7.holds Tryz.pinned (.plain (OpenSpec.ofChange askAnswersDoNotDependOnOrderSpec)) askAnswersDoNotDependOnOrderCard

/-- THE TIED CARD OF 'harrierlaw12.AskNeverMatchesSpec'. -/
def askNeverMatchesSpecCard : Claim7 := { stood := { row := askNeverMatchesSpecRow, standIns := [], harness := (true, "338a1e0f0eb019e45ac445c5fc7c250488972872189fa31b2a4d5f922e0850ce"), looks := true }, kinds := [], alts := [], laidByText := true, laidKinds := [.data, .data, .data, .sentinel, .sentinel], laidTests := true, laidLooks := .later }
def AskNeverMatchesSpecCardSaid : Prop := Claim7.holds Tryz.pinned (.plain (OpenSpec.ofChange askNeverMatchesSpecSpec)) askNeverMatchesSpecCard

/-- THE TIED CARD OF 'harrierlaw12.AskMoreEarnsMore'. -/
def askMoreEarnsMoreCard : Claim7 := { stood := { row := askMoreEarnsMoreRow, standIns := [], harness := (true, "338a1e0f0eb019e45ac445c5fc7c250488972872189fa31b2a4d5f922e0850ce"), looks := true }, kinds := [], alts := [], laidByText := true, laidKinds := [.data, .data, .data, .sentinel, .sentinel], laidTests := true, laidLooks := .later }
def AskMoreEarnsMoreCardSaid : Prop := Claim7.holds Tryz.pinned (.plain (OpenSpec.ofChange askMoreEarnsMoreSpec)) askMoreEarnsMoreCard

/-- THE TIED CARD OF 'harrierlaw12.AskBadgesMatchSpec'. -/
def askBadgesMatchSpecCard : Claim7 := { stood := { row := askBadgesMatchSpecRow, standIns := [], harness := (true, "338a1e0f0eb019e45ac445c5fc7c250488972872189fa31b2a4d5f922e0850ce"), looks := true }, kinds := [], alts := [], laidByText := true, laidKinds := [.data, .data, .data, .sentinel, .sentinel], laidTests := true, laidLooks := .later }
def AskBadgesMatchSpecCardSaid : Prop := Claim7.holds Tryz.pinned (.plain (OpenSpec.ofChange askBadgesMatchSpecSpec)) askBadgesMatchSpecCard

/-- THE TIED CARD OF 'harrierlaw12.AskLogMatchesSpec'. -/
def askLogMatchesSpecCard : Claim7 := { stood := { row := askLogMatchesSpecRow, standIns := [], harness := (true, "338a1e0f0eb019e45ac445c5fc7c250488972872189fa31b2a4d5f922e0850ce"), looks := true }, kinds := [], alts := [], laidByText := true, laidKinds := [.data, .data, .data, .sentinel, .sentinel], laidTests := true, laidLooks := .later }
def AskLogMatchesSpecCardSaid : Prop := Claim7.holds Tryz.pinned (.plain (OpenSpec.ofChange askLogMatchesSpecSpec)) askLogMatchesSpecCard

/-- THE SECOND FORM's CARD OF 'harrierlaw12.AskCondTextsComeBack'. -/
def askCondTextsComeBackUptoCard : Claim7 := { stood := { row := askCondTextsComeBackUptoRow, standIns := [], harness := (true, "338a1e0f0eb019e45ac445c5fc7c250488972872189fa31b2a4d5f922e0850ce"), looks := true }, kinds := [], alts := [], laidByText := true, laidKinds := [.data, .data, .data, .sentinel, .sentinel], laidTests := true, laidLooks := .later }
def AskCondTextsComeBackUptoCardSaid : Prop := Claim7.holds Tryz.pinned (.plain (OpenSpec.upto askCondTextsComeBackSpec)) askCondTextsComeBackUptoCard

/-- THE SECOND FORM's CARD OF 'harrierlaw12.AskCondReadsMatchSpec'. -/
def askCondReadsMatchSpecUptoCard : Claim7 := { stood := { row := askCondReadsMatchSpecUptoRow, standIns := [], harness := (true, "338a1e0f0eb019e45ac445c5fc7c250488972872189fa31b2a4d5f922e0850ce"), looks := true }, kinds := [], alts := [], laidByText := true, laidKinds := [.data, .data, .data, .sentinel, .sentinel], laidTests := true, laidLooks := .later }
def AskCondReadsMatchSpecUptoCardSaid : Prop := Claim7.holds Tryz.pinned (.plain (OpenSpec.upto askCondReadsMatchSpecSpec)) askCondReadsMatchSpecUptoCard

/-- THE SECOND FORM's CARD OF 'harrierlaw12.AskQueryReadsMatchSpec'. -/
def askQueryReadsMatchSpecUptoCard : Claim7 := { stood := { row := askQueryReadsMatchSpecUptoRow, standIns := [], harness := (true, "338a1e0f0eb019e45ac445c5fc7c250488972872189fa31b2a4d5f922e0850ce"), looks := true }, kinds := [], alts := [], laidByText := true, laidKinds := [.data, .data, .data, .sentinel, .sentinel], laidTests := true, laidLooks := .later }
def AskQueryReadsMatchSpecUptoCardSaid : Prop := Claim7.holds Tryz.pinned (.plain (OpenSpec.upto askQueryReadsMatchSpecSpec)) askQueryReadsMatchSpecUptoCard

/-- THE SECOND FORM's CARD OF 'harrierlaw12.AskQueryTextsComeBack'. -/
def askQueryTextsComeBackUptoCard : Claim7 := { stood := { row := askQueryTextsComeBackUptoRow, standIns := [], harness := (true, "338a1e0f0eb019e45ac445c5fc7c250488972872189fa31b2a4d5f922e0850ce"), looks := true }, kinds := [], alts := [], laidByText := true, laidKinds := [.data, .data, .data, .sentinel, .sentinel], laidTests := true, laidLooks := .later }
def AskQueryTextsComeBackUptoCardSaid : Prop := Claim7.holds Tryz.pinned (.plain (OpenSpec.upto askQueryTextsComeBackSpec)) askQueryTextsComeBackUptoCard

/-- THE SECOND FORM's CARD OF 'harrierlaw12.AskCondsMatchSpec'. -/
def askCondsMatchSpecUptoCard : Claim7 := { stood := { row := askCondsMatchSpecUptoRow, standIns := [], harness := (true, "338a1e0f0eb019e45ac445c5fc7c250488972872189fa31b2a4d5f922e0850ce"), looks := true }, kinds := [], alts := [], laidByText := true, laidKinds := [.data, .data, .data, .sentinel, .sentinel], laidTests := true, laidLooks := .later }
def AskCondsMatchSpecUptoCardSaid : Prop := Claim7.holds Tryz.pinned (.plain (OpenSpec.upto askCondsMatchSpecSpec)) askCondsMatchSpecUptoCard

/-- THE SECOND FORM's CARD OF 'harrierlaw12.AskRowsMatchSpec'. -/
def askRowsMatchSpecUptoCard : Claim7 := { stood := { row := askRowsMatchSpecUptoRow, standIns := [], harness := (true, "338a1e0f0eb019e45ac445c5fc7c250488972872189fa31b2a4d5f922e0850ce"), looks := true }, kinds := [], alts := [], laidByText := true, laidKinds := [.data, .data, .data, .sentinel, .sentinel], laidTests := true, laidLooks := .later }
def AskRowsMatchSpecUptoCardSaid : Prop := Claim7.holds Tryz.pinned (.plain (OpenSpec.upto askRowsMatchSpecSpec)) askRowsMatchSpecUptoCard

/-- THE SECOND FORM's CARD OF 'harrierlaw12.AskAnswersMatchSpec'. -/
def askAnswersMatchSpecUptoCard : Claim7 := { stood := { row := askAnswersMatchSpecUptoRow, standIns := [], harness := (true, "338a1e0f0eb019e45ac445c5fc7c250488972872189fa31b2a4d5f922e0850ce"), looks := true }, kinds := [], alts := [], laidByText := true, laidKinds := [.data, .data, .data, .sentinel, .sentinel], laidTests := true, laidLooks := .later }
def AskAnswersMatchSpecUptoCardSaid : Prop := Claim7.holds Tryz.pinned (.plain (OpenSpec.upto askAnswersMatchSpecSpec)) askAnswersMatchSpecUptoCard

/-- THE SECOND FORM's CARD OF 'harrierlaw12.AskAnswersDoNotDependOnOrder'. -/
def askAnswersDoNotDependOnOrderUptoCard : Claim7 := { stood := { row := askAnswersDoNotDependOnOrderUptoRow, standIns := [], harness := (true, "338a1e0f0eb019e45ac445c5fc7c250488972872189fa31b2a4d5f922e0850ce"), looks := true }, kinds := [], alts := [], laidByText := true, laidKinds := [.data, .data, .data, .sentinel, .sentinel], laidTests := true, laidLooks := .later }
def AskAnswersDoNotDependOnOrderUptoCardSaid : Prop := Claim7.holds Tryz.pinned (.plain (OpenSpec.upto askAnswersDoNotDependOnOrderSpec)) askAnswersDoNotDependOnOrderUptoCard

/-- THE SECOND FORM's CARD OF 'harrierlaw12.AskNeverMatchesSpec'. -/
def askNeverMatchesSpecUptoCard : Claim7 := { stood := { row := askNeverMatchesSpecUptoRow, standIns := [], harness := (true, "338a1e0f0eb019e45ac445c5fc7c250488972872189fa31b2a4d5f922e0850ce"), looks := true }, kinds := [], alts := [], laidByText := true, laidKinds := [.data, .data, .data, .sentinel, .sentinel], laidTests := true, laidLooks := .later }
def AskNeverMatchesSpecUptoCardSaid : Prop := Claim7.holds Tryz.pinned (.plain (OpenSpec.upto askNeverMatchesSpecSpec)) askNeverMatchesSpecUptoCard

/-- THE SECOND FORM's CARD OF 'harrierlaw12.AskMoreEarnsMore'. -/
def askMoreEarnsMoreUptoCard : Claim7 := { stood := { row := askMoreEarnsMoreUptoRow, standIns := [], harness := (true, "338a1e0f0eb019e45ac445c5fc7c250488972872189fa31b2a4d5f922e0850ce"), looks := true }, kinds := [], alts := [], laidByText := true, laidKinds := [.data, .data, .data, .sentinel, .sentinel], laidTests := true, laidLooks := .later }
def AskMoreEarnsMoreUptoCardSaid : Prop := Claim7.holds Tryz.pinned (.plain (OpenSpec.upto askMoreEarnsMoreSpec)) askMoreEarnsMoreUptoCard

/-- THE SECOND FORM's CARD OF 'harrierlaw12.AskBadgesMatchSpec'. -/
def askBadgesMatchSpecUptoCard : Claim7 := { stood := { row := askBadgesMatchSpecUptoRow, standIns := [], harness := (true, "338a1e0f0eb019e45ac445c5fc7c250488972872189fa31b2a4d5f922e0850ce"), looks := true }, kinds := [], alts := [], laidByText := true, laidKinds := [.data, .data, .data, .sentinel, .sentinel], laidTests := true, laidLooks := .later }
def AskBadgesMatchSpecUptoCardSaid : Prop := Claim7.holds Tryz.pinned (.plain (OpenSpec.upto askBadgesMatchSpecSpec)) askBadgesMatchSpecUptoCard

/-- THE SECOND FORM's CARD OF 'harrierlaw12.AskLogMatchesSpec'. -/
def askLogMatchesSpecUptoCard : Claim7 := { stood := { row := askLogMatchesSpecUptoRow, standIns := [], harness := (true, "338a1e0f0eb019e45ac445c5fc7c250488972872189fa31b2a4d5f922e0850ce"), looks := true }, kinds := [], alts := [], laidByText := true, laidKinds := [.data, .data, .data, .sentinel, .sentinel], laidTests := true, laidLooks := .later }
def AskLogMatchesSpecUptoCardSaid : Prop := Claim7.holds Tryz.pinned (.plain (OpenSpec.upto askLogMatchesSpecSpec)) askLogMatchesSpecUptoCard
end Rows
end Go.Proofs.YtmhaghcfopdifaaGreatDoor
