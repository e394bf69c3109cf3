/-
  DERIVED. GIVEN WITH THE SEED: THE CARDS: each row of YtohplnjpncjhoaaGreatDoorRows.lean that lists a variable, with what it lists TIED to the program's text (the seventh form; the later family's looks); each row that meets fmt, with fmt's text TOLD by the authors' own Lean function (tested against real Go, not proved from fmt's source: count such statements apart). THE CARD IS WHAT COUNTS. Prove the row's statement (the work); the ties are given (YtohplnjpncjhoaaGreatDoorTie.lean); close each card by the builder's one call (the guide's Derived/Test/ToyasCard.lean, 'card_holds'). Laid BY PROGRAM, IN A SANDBOX (cutbox-door.mjs). By AI agents, Wed Nov 11 2026. No macro, syntax, notation, axiom, sorry.
-/
import Derived.Test.YtohplnjpncjhoaaGreatDoorRows
import GoSem.ClaimSeven
namespace Go.Proofs.YtohplnjpncjhoaaGreatDoor
namespace Rows

/-- THE TIED CARD OF 'harrierlaw10.VeilReadMatchesSpec'. -/
def veilReadMatchesSpecCard : Claim7 := { stood := { row := veilReadMatchesSpecRow, standIns := [], harness := (true, "ab032f9f7fe935f757b6353d0ebc00df4efd8c05b317ac0611e57166520e21bb"), looks := true }, kinds := [], alts := [], laidByText := true, laidKinds := [.data, .data, .data, .data, .sentinel, .sentinel, .pinned], laidTests := true, laidLooks := .later }
def VeilReadMatchesSpecCardSaid : Prop := Claim7.holds Tryz.pinned (.plain (OpenSpec.ofChange veilReadMatchesSpecSpec)) veilReadMatchesSpecCard

/-- THE TIED CARD OF 'harrierlaw10.VeilTextsComeBack'. -/
def veilTextsComeBackCard : Claim7 := { stood := { row := veilTextsComeBackRow, standIns := [], harness := (true, "ab032f9f7fe935f757b6353d0ebc00df4efd8c05b317ac0611e57166520e21bb"), looks := true }, kinds := [], alts := [], laidByText := true, laidKinds := [.data, .data, .data, .data, .sentinel, .sentinel, .pinned], laidTests := true, laidLooks := .later }
def VeilTextsComeBackCardSaid : Prop := Claim7.holds Tryz.pinned (.plain (OpenSpec.ofChange veilTextsComeBackSpec)) veilTextsComeBackCard

/-- THE SECOND FORM's CARD OF 'harrierlaw10.VeilReadMatchesSpec'. -/
def veilReadMatchesSpecUptoCard : Claim7 := { stood := { row := veilReadMatchesSpecUptoRow, standIns := [], harness := (true, "ab032f9f7fe935f757b6353d0ebc00df4efd8c05b317ac0611e57166520e21bb"), looks := true }, kinds := [], alts := [], laidByText := true, laidKinds := [.data, .data, .data, .data, .sentinel, .sentinel, .pinned], laidTests := true, laidLooks := .later }
def VeilReadMatchesSpecUptoCardSaid : Prop := Claim7.holds Tryz.pinned (.plain (OpenSpec.upto veilReadMatchesSpecSpec)) veilReadMatchesSpecUptoCard

/-- THE SECOND FORM's CARD OF 'harrierlaw10.VeilTextsComeBack'. -/
def veilTextsComeBackUptoCard : Claim7 := { stood := { row := veilTextsComeBackUptoRow, standIns := [], harness := (true, "ab032f9f7fe935f757b6353d0ebc00df4efd8c05b317ac0611e57166520e21bb"), looks := true }, kinds := [], alts := [], laidByText := true, laidKinds := [.data, .data, .data, .data, .sentinel, .sentinel, .pinned], laidTests := true, laidLooks := .later }
def VeilTextsComeBackUptoCardSaid : Prop := Claim7.holds Tryz.pinned (.plain (OpenSpec.upto veilTextsComeBackSpec)) veilTextsComeBackUptoCard
end Rows
end Go.Proofs.YtohplnjpncjhoaaGreatDoor
