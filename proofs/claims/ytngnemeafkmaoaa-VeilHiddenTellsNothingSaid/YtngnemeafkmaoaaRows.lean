/-
  No cell of these rows narrows 'for every input' (looked for: loops, veiled, ifaces, maps, wideKeys, modest, calm, conditions, laid).
  DERIVED. THE GIVEN ROWS OF THIS SEAT. 7 by the template 'for every input the law returns true; each argument reads behind the call as it read before'; 0 by the template 'total and deterministic' (their statements: YtngnemeafkmaoaaTotals.lean).
  GIVEN WITH THE SEED: the statements are not yours to turn. If you find one false, say at which input.
  Laid BY PROGRAM, IN A SANDBOX (cutbox-rows.mjs): the forced cells as the released guide's own fill.sh prints them over the translation 717dc4f2a063f87a… (all of the seat's roots in one cut). By AI agents, Wed Nov 11 2026. No macro, syntax, notation, axiom, sorry.
-/
import Derived.Test.YtngnemeafkmaoaaChecked
import GoSem.Claim
import GoSem.ClaimJoined
import GoSem.ClaimMapViews
import Derived.JoinedTies
import Derived.KernelRfl
namespace Go.Proofs.Ytngnemeafkmaoaa
/- THE CELL 'sum', in the pinned program and in every row, IS THE sha256 OF THE DUMP (.gsa) THAT YtngnemeafkmaoaaProg.lean LOADS. Nothing in Lean hashes anything: it is a label: what it is worth is what the hold of that sum in a sandbox is worth. -/
noncomputable def Try.pinned : Pinned := { name := "ytngnemeafkmaoaa", sum := "717dc4f2a063f87a2a68d861d6148db8f74357703d9b509aac2f9646ccaf9b80", checked := Try.checked }
namespace Rows
def none {H : Type} : Left H := { results := [], args := [] }

/-- 'harrierlaw10.VeilLevelsShrink': WHATEVER THE INPUT: true; the input reads as it did. -/
def veilLevelsShrinkSpec : ChangeSpec := { name := "veilLevelsShrink", fn := fun _ => fun
  | [d1, d2, d3] => { results := [.lit (.bool true)], args := [d1, d2, d3] }
  | _ => none }
def veilLevelsShrinkRow : OpenClaim := { program := "ytngnemeafkmaoaa", sum := "717dc4f2a063f87a2a68d861d6148db8f74357703d9b509aac2f9646ccaf9b80", func := "harrier/harrierlaw10.VeilLevelsShrink", spec := "veilLevelsShrink", unfollowed := true, recurses := true, apart := false }
def VeilLevelsShrinkSaid : Prop := veilLevelsShrinkRow.holds Try.pinned (OpenSpec.ofChange veilLevelsShrinkSpec)

/-- ITS FALSE NEIGHBOUR: 'it returns false'. Refute it at one input. -/
def veilLevelsShrinkWrong : ChangeSpec := { name := "veilLevelsShrink", fn := fun _ => fun
  | [d1, d2, d3] => { results := [.lit (.bool false)], args := [d1, d2, d3] }
  | _ => none }
def VeilLevelsShrinkWrongFalsely : Prop := veilLevelsShrinkRow.holds Try.pinned (OpenSpec.ofChange veilLevelsShrinkWrong)

/-- 'harrierlaw10.VeilHiddenMatchesSpec': WHATEVER THE INPUT: true; the input reads as it did. -/
def veilHiddenMatchesSpecSpec : ChangeSpec := { name := "veilHiddenMatchesSpec", fn := fun _ => fun
  | [d1, d2, d3] => { results := [.lit (.bool true)], args := [d1, d2, d3] }
  | _ => none }
def veilHiddenMatchesSpecRow : OpenClaim := { program := "ytngnemeafkmaoaa", sum := "717dc4f2a063f87a2a68d861d6148db8f74357703d9b509aac2f9646ccaf9b80", func := "harrier/harrierlaw10.VeilHiddenMatchesSpec", spec := "veilHiddenMatchesSpec", unfollowed := true, recurses := true, apart := false }
def VeilHiddenMatchesSpecSaid : Prop := veilHiddenMatchesSpecRow.holds Try.pinned (OpenSpec.ofChange veilHiddenMatchesSpecSpec)

/-- ITS FALSE NEIGHBOUR: 'it returns false'. Refute it at one input. -/
def veilHiddenMatchesSpecWrong : ChangeSpec := { name := "veilHiddenMatchesSpec", fn := fun _ => fun
  | [d1, d2, d3] => { results := [.lit (.bool false)], args := [d1, d2, d3] }
  | _ => none }
def VeilHiddenMatchesSpecWrongFalsely : Prop := veilHiddenMatchesSpecRow.holds Try.pinned (OpenSpec.ofChange veilHiddenMatchesSpecWrong)

/-- 'harrierlaw10.VeilHiddenTellsNothing': WHATEVER THE INPUT: true; the input reads as it did. -/
def veilHiddenTellsNothingSpec : ChangeSpec := { name := "veilHiddenTellsNothing", fn := fun _ => fun
  | [d1, d2, d3, d4, d5] => { results := [.lit (.bool true)], args := [d1, d2, d3, d4, d5] }
  | _ => none }
def veilHiddenTellsNothingRow : OpenClaim := { program := "ytngnemeafkmaoaa", sum := "717dc4f2a063f87a2a68d861d6148db8f74357703d9b509aac2f9646ccaf9b80", func := "harrier/harrierlaw10.VeilHiddenTellsNothing", spec := "veilHiddenTellsNothing", unfollowed := true, recurses := true, apart := false }
def VeilHiddenTellsNothingSaid : Prop := veilHiddenTellsNothingRow.holds Try.pinned (OpenSpec.ofChange veilHiddenTellsNothingSpec)

/-- ITS FALSE NEIGHBOUR: 'it returns false'. Refute it at one input. -/
def veilHiddenTellsNothingWrong : ChangeSpec := { name := "veilHiddenTellsNothing", fn := fun _ => fun
  | [d1, d2, d3, d4, d5] => { results := [.lit (.bool false)], args := [d1, d2, d3, d4, d5] }
  | _ => none }
def VeilHiddenTellsNothingWrongFalsely : Prop := veilHiddenTellsNothingRow.holds Try.pinned (OpenSpec.ofChange veilHiddenTellsNothingWrong)

/-- 'harrierlaw10.VeilTellsMatchSpec': WHATEVER THE INPUT: true; the input reads as it did. -/
def veilTellsMatchSpecSpec : ChangeSpec := { name := "veilTellsMatchSpec", fn := fun _ => fun
  | [d1, d2, d3, d4] => { results := [.lit (.bool true)], args := [d1, d2, d3, d4] }
  | _ => none }
def veilTellsMatchSpecRow : OpenClaim := { program := "ytngnemeafkmaoaa", sum := "717dc4f2a063f87a2a68d861d6148db8f74357703d9b509aac2f9646ccaf9b80", func := "harrier/harrierlaw10.VeilTellsMatchSpec", spec := "veilTellsMatchSpec", unfollowed := true, recurses := true, apart := false }
def VeilTellsMatchSpecSaid : Prop := veilTellsMatchSpecRow.holds Try.pinned (OpenSpec.ofChange veilTellsMatchSpecSpec)

/-- ITS FALSE NEIGHBOUR: 'it returns false'. Refute it at one input. -/
def veilTellsMatchSpecWrong : ChangeSpec := { name := "veilTellsMatchSpec", fn := fun _ => fun
  | [d1, d2, d3, d4] => { results := [.lit (.bool false)], args := [d1, d2, d3, d4] }
  | _ => none }
def VeilTellsMatchSpecWrongFalsely : Prop := veilTellsMatchSpecRow.holds Try.pinned (OpenSpec.ofChange veilTellsMatchSpecWrong)

/-- 'harrierlaw10.VeilTidyTellsTheSame': WHATEVER THE INPUT: true; the input reads as it did. -/
def veilTidyTellsTheSameSpec : ChangeSpec := { name := "veilTidyTellsTheSame", fn := fun _ => fun
  | [d1, d2, d3] => { results := [.lit (.bool true)], args := [d1, d2, d3] }
  | _ => none }
def veilTidyTellsTheSameRow : OpenClaim := { program := "ytngnemeafkmaoaa", sum := "717dc4f2a063f87a2a68d861d6148db8f74357703d9b509aac2f9646ccaf9b80", func := "harrier/harrierlaw10.VeilTidyTellsTheSame", spec := "veilTidyTellsTheSame", unfollowed := true, recurses := true, apart := false }
def VeilTidyTellsTheSameSaid : Prop := veilTidyTellsTheSameRow.holds Try.pinned (OpenSpec.ofChange veilTidyTellsTheSameSpec)

/-- ITS FALSE NEIGHBOUR: 'it returns false'. Refute it at one input. -/
def veilTidyTellsTheSameWrong : ChangeSpec := { name := "veilTidyTellsTheSame", fn := fun _ => fun
  | [d1, d2, d3] => { results := [.lit (.bool false)], args := [d1, d2, d3] }
  | _ => none }
def VeilTidyTellsTheSameWrongFalsely : Prop := veilTidyTellsTheSameRow.holds Try.pinned (OpenSpec.ofChange veilTidyTellsTheSameWrong)

/-- 'harrierlaw10.VeilCheckMatchesSpec': WHATEVER THE INPUT: true; the input reads as it did. -/
def veilCheckMatchesSpecSpec : ChangeSpec := { name := "veilCheckMatchesSpec", fn := fun _ => fun
  | [d] => { results := [.lit (.bool true)], args := [d] }
  | _ => none }
def veilCheckMatchesSpecRow : OpenClaim := { program := "ytngnemeafkmaoaa", sum := "717dc4f2a063f87a2a68d861d6148db8f74357703d9b509aac2f9646ccaf9b80", func := "harrier/harrierlaw10.VeilCheckMatchesSpec", spec := "veilCheckMatchesSpec", unfollowed := true, recurses := true, apart := false }
def VeilCheckMatchesSpecSaid : Prop := veilCheckMatchesSpecRow.holds Try.pinned (OpenSpec.ofChange veilCheckMatchesSpecSpec)

/-- ITS FALSE NEIGHBOUR: 'it returns false'. Refute it at one input. -/
def veilCheckMatchesSpecWrong : ChangeSpec := { name := "veilCheckMatchesSpec", fn := fun _ => fun
  | [d] => { results := [.lit (.bool false)], args := [d] }
  | _ => none }
def VeilCheckMatchesSpecWrongFalsely : Prop := veilCheckMatchesSpecRow.holds Try.pinned (OpenSpec.ofChange veilCheckMatchesSpecWrong)

/-- 'harrierlaw10.VeilCoversMatchSpec': WHATEVER THE INPUT: true; the input reads as it did. -/
def veilCoversMatchSpecSpec : ChangeSpec := { name := "veilCoversMatchSpec", fn := fun _ => fun
  | [d1, d2, d3, d4] => { results := [.lit (.bool true)], args := [d1, d2, d3, d4] }
  | _ => none }
def veilCoversMatchSpecRow : OpenClaim := { program := "ytngnemeafkmaoaa", sum := "717dc4f2a063f87a2a68d861d6148db8f74357703d9b509aac2f9646ccaf9b80", func := "harrier/harrierlaw10.VeilCoversMatchSpec", spec := "veilCoversMatchSpec", unfollowed := true, recurses := true, apart := false }
def VeilCoversMatchSpecSaid : Prop := veilCoversMatchSpecRow.holds Try.pinned (OpenSpec.ofChange veilCoversMatchSpecSpec)

/-- ITS FALSE NEIGHBOUR: 'it returns false'. Refute it at one input. -/
def veilCoversMatchSpecWrong : ChangeSpec := { name := "veilCoversMatchSpec", fn := fun _ => fun
  | [d1, d2, d3, d4] => { results := [.lit (.bool false)], args := [d1, d2, d3, d4] }
  | _ => none }
def VeilCoversMatchSpecWrongFalsely : Prop := veilCoversMatchSpecRow.holds Try.pinned (OpenSpec.ofChange veilCoversMatchSpecWrong)

/- THE SECOND FORM. 'bulk': how many values and letters a reading holds, each counted each time it is reached (what is shared counts as often as it is met; a slice's spare places count too). A statement '..UptoSaid' is the law's where the arguments, and the package variables that the reading takes, are together of bulk at most 1048576: NARROWER than '..Said'. Prove '..Said' where nothing that the law and all that it calls make is longer than what came in: it says more and counts as full. Else prove '..UptoSaid'. A law counts once. -/
mutual
def uptoBulk {H : Type} : DataW H → Nat
  | .lit (.string bytes) => bytes.length + 1
  | .lit _ => 1
  | .nil => 1
  | .ptr d => uptoBulk d + 1
  | .slice elems spare => uptoBulkAll elems + uptoBulkAll spare + 1
  | .agg parts => uptoBulkAll parts + 1
  | .iface _ d => uptoBulk d + 1
  | .map entries => uptoBulkEntries entries + 1
  | .held _ => 1
def uptoBulkAll {H : Type} : List (DataW H) → Nat
  | [] => 0
  | d :: r => uptoBulk d + uptoBulkAll r
def uptoBulkEntries {H : Type} : List (Lit × DataW H) → Nat
  | [] => 0
  | x :: r => uptoBulkEntry x + uptoBulkEntries r
def uptoBulkEntry {H : Type} : Lit × DataW H → Nat
  | (.string bytes, d) => bytes.length + uptoBulk d + 1
  | (_, d) => uptoBulk d + 1
 end
def uptoSmall : (H : Type) → List (DataW H) → Bool := fun _ ds => decide (uptoBulkAll ds ≤ 1048576)
def OpenSpec.upto (s : _root_.Go.ChangeSpec) : _root_.Go.OpenSpec := { _root_.Go.OpenSpec.ofChange s with cond := some uptoSmall }

/-- 'harrierlaw10.VeilLevelsShrink', WHERE WHAT IT READS IS OF BULK AT MOST 1048576: true; the input reads as it did. -/
def veilLevelsShrinkUptoRow : OpenClaim := { program := "ytngnemeafkmaoaa", sum := "717dc4f2a063f87a2a68d861d6148db8f74357703d9b509aac2f9646ccaf9b80", func := "harrier/harrierlaw10.VeilLevelsShrink", spec := "veilLevelsShrink", unfollowed := true, recurses := true, apart := false, narrowed := true }
def VeilLevelsShrinkUptoSaid : Prop := veilLevelsShrinkUptoRow.holds Try.pinned (OpenSpec.upto veilLevelsShrinkSpec)

/-- 'harrierlaw10.VeilHiddenMatchesSpec', WHERE WHAT IT READS IS OF BULK AT MOST 1048576: true; the input reads as it did. -/
def veilHiddenMatchesSpecUptoRow : OpenClaim := { program := "ytngnemeafkmaoaa", sum := "717dc4f2a063f87a2a68d861d6148db8f74357703d9b509aac2f9646ccaf9b80", func := "harrier/harrierlaw10.VeilHiddenMatchesSpec", spec := "veilHiddenMatchesSpec", unfollowed := true, recurses := true, apart := false, narrowed := true }
def VeilHiddenMatchesSpecUptoSaid : Prop := veilHiddenMatchesSpecUptoRow.holds Try.pinned (OpenSpec.upto veilHiddenMatchesSpecSpec)

/-- 'harrierlaw10.VeilHiddenTellsNothing', WHERE WHAT IT READS IS OF BULK AT MOST 1048576: true; the input reads as it did. -/
def veilHiddenTellsNothingUptoRow : OpenClaim := { program := "ytngnemeafkmaoaa", sum := "717dc4f2a063f87a2a68d861d6148db8f74357703d9b509aac2f9646ccaf9b80", func := "harrier/harrierlaw10.VeilHiddenTellsNothing", spec := "veilHiddenTellsNothing", unfollowed := true, recurses := true, apart := false, narrowed := true }
def VeilHiddenTellsNothingUptoSaid : Prop := veilHiddenTellsNothingUptoRow.holds Try.pinned (OpenSpec.upto veilHiddenTellsNothingSpec)

/-- 'harrierlaw10.VeilTellsMatchSpec', WHERE WHAT IT READS IS OF BULK AT MOST 1048576: true; the input reads as it did. -/
def veilTellsMatchSpecUptoRow : OpenClaim := { program := "ytngnemeafkmaoaa", sum := "717dc4f2a063f87a2a68d861d6148db8f74357703d9b509aac2f9646ccaf9b80", func := "harrier/harrierlaw10.VeilTellsMatchSpec", spec := "veilTellsMatchSpec", unfollowed := true, recurses := true, apart := false, narrowed := true }
def VeilTellsMatchSpecUptoSaid : Prop := veilTellsMatchSpecUptoRow.holds Try.pinned (OpenSpec.upto veilTellsMatchSpecSpec)

/-- 'harrierlaw10.VeilTidyTellsTheSame', WHERE WHAT IT READS IS OF BULK AT MOST 1048576: true; the input reads as it did. -/
def veilTidyTellsTheSameUptoRow : OpenClaim := { program := "ytngnemeafkmaoaa", sum := "717dc4f2a063f87a2a68d861d6148db8f74357703d9b509aac2f9646ccaf9b80", func := "harrier/harrierlaw10.VeilTidyTellsTheSame", spec := "veilTidyTellsTheSame", unfollowed := true, recurses := true, apart := false, narrowed := true }
def VeilTidyTellsTheSameUptoSaid : Prop := veilTidyTellsTheSameUptoRow.holds Try.pinned (OpenSpec.upto veilTidyTellsTheSameSpec)

/-- 'harrierlaw10.VeilCheckMatchesSpec', WHERE WHAT IT READS IS OF BULK AT MOST 1048576: true; the input reads as it did. -/
def veilCheckMatchesSpecUptoRow : OpenClaim := { program := "ytngnemeafkmaoaa", sum := "717dc4f2a063f87a2a68d861d6148db8f74357703d9b509aac2f9646ccaf9b80", func := "harrier/harrierlaw10.VeilCheckMatchesSpec", spec := "veilCheckMatchesSpec", unfollowed := true, recurses := true, apart := false, narrowed := true }
def VeilCheckMatchesSpecUptoSaid : Prop := veilCheckMatchesSpecUptoRow.holds Try.pinned (OpenSpec.upto veilCheckMatchesSpecSpec)

/-- 'harrierlaw10.VeilCoversMatchSpec', WHERE WHAT IT READS IS OF BULK AT MOST 1048576: true; the input reads as it did. -/
def veilCoversMatchSpecUptoRow : OpenClaim := { program := "ytngnemeafkmaoaa", sum := "717dc4f2a063f87a2a68d861d6148db8f74357703d9b509aac2f9646ccaf9b80", func := "harrier/harrierlaw10.VeilCoversMatchSpec", spec := "veilCoversMatchSpec", unfollowed := true, recurses := true, apart := false, narrowed := true }
def VeilCoversMatchSpecUptoSaid : Prop := veilCoversMatchSpecUptoRow.holds Try.pinned (OpenSpec.upto veilCoversMatchSpecSpec)

end Rows
end Go.Proofs.Ytngnemeafkmaoaa
