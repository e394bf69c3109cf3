/-
  No cell of these rows narrows 'for every input' (looked for: loops, veiled, ifaces, maps, wideKeys, modest, calm, conditions, laid).
  DERIVED. THE GIVEN ROWS OF THIS SEAT. 10 by the template 'for every input the law returns true; each argument reads behind the call as it read before'; 0 by the template 'total and deterministic' (their statements: YtnnofignhdijiaaTotals.lean).
  GIVEN WITH THE SEED: the statements are not yours to turn. If you find one false, say at which input.
  Laid BY PROGRAM, IN A SANDBOX (cutbox-rows.mjs): the forced cells as the released guide's own fill.sh prints them over the translation 3c1772f9d6f9eea9… (all of the seat's roots in one cut). By AI agents, Wed Nov 11 2026. No macro, syntax, notation, axiom, sorry.
-/
import Derived.Test.YtnnofignhdijiaaChecked
import GoSem.Claim
import GoSem.ClaimJoined
import GoSem.ClaimMapViews
import Derived.JoinedTies
import Derived.KernelRfl
namespace Go.Proofs.Ytnnofignhdijiaa
/- THE CELL 'sum', in the pinned program and in every row, IS THE sha256 OF THE DUMP (.gsa) THAT YtnnofignhdijiaaProg.lean LOADS. Nothing in Lean hashes anything: it is a label: what it is worth is what the hold of that sum in a sandbox is worth. -/
noncomputable def Try.pinned : Pinned := { name := "ytnnofignhdijiaa", sum := "3c1772f9d6f9eea98ecb2d18bde64171358a37c95afb0c01e8ca502908c5287b", checked := Try.checked }
namespace Rows
def none {H : Type} : Left H := { results := [], args := [] }

/-- 'harrierlaw2.RecordCheckMatchesSpec': WHATEVER THE INPUT: true; the input reads as it did. -/
def recordCheckMatchesSpecSpec : ChangeSpec := { name := "recordCheckMatchesSpec", fn := fun _ => fun
  | [d1, d2] => { results := [.lit (.bool true)], args := [d1, d2] }
  | _ => none }
def recordCheckMatchesSpecRow : OpenClaim := { program := "ytnnofignhdijiaa", sum := "3c1772f9d6f9eea98ecb2d18bde64171358a37c95afb0c01e8ca502908c5287b", func := "harrier/harrierlaw2.RecordCheckMatchesSpec", spec := "recordCheckMatchesSpec", unfollowed := true, recurses := true, apart := false }
def RecordCheckMatchesSpecSaid : Prop := recordCheckMatchesSpecRow.holds Try.pinned (OpenSpec.ofChange recordCheckMatchesSpecSpec)

/-- ITS FALSE NEIGHBOUR: 'it returns false'. Refute it at one input. -/
def recordCheckMatchesSpecWrong : ChangeSpec := { name := "recordCheckMatchesSpec", fn := fun _ => fun
  | [d1, d2] => { results := [.lit (.bool false)], args := [d1, d2] }
  | _ => none }
def RecordCheckMatchesSpecWrongFalsely : Prop := recordCheckMatchesSpecRow.holds Try.pinned (OpenSpec.ofChange recordCheckMatchesSpecWrong)

/-- 'harrierlaw2.RecordFilesMatchSpec': WHATEVER THE INPUT: true; the input reads as it did. -/
def recordFilesMatchSpecSpec : ChangeSpec := { name := "recordFilesMatchSpec", fn := fun _ => fun
  | [d] => { results := [.lit (.bool true)], args := [d] }
  | _ => none }
def recordFilesMatchSpecRow : OpenClaim := { program := "ytnnofignhdijiaa", sum := "3c1772f9d6f9eea98ecb2d18bde64171358a37c95afb0c01e8ca502908c5287b", func := "harrier/harrierlaw2.RecordFilesMatchSpec", spec := "recordFilesMatchSpec", unfollowed := true, recurses := true, apart := false }
def RecordFilesMatchSpecSaid : Prop := recordFilesMatchSpecRow.holds Try.pinned (OpenSpec.ofChange recordFilesMatchSpecSpec)

/-- ITS FALSE NEIGHBOUR: 'it returns false'. Refute it at one input. -/
def recordFilesMatchSpecWrong : ChangeSpec := { name := "recordFilesMatchSpec", fn := fun _ => fun
  | [d] => { results := [.lit (.bool false)], args := [d] }
  | _ => none }
def RecordFilesMatchSpecWrongFalsely : Prop := recordFilesMatchSpecRow.holds Try.pinned (OpenSpec.ofChange recordFilesMatchSpecWrong)

/-- 'harrierlaw2.RecordWithoutMatchesSpec': WHATEVER THE INPUT: true; the input reads as it did. -/
def recordWithoutMatchesSpecSpec : ChangeSpec := { name := "recordWithoutMatchesSpec", fn := fun _ => fun
  | [d1, d2] => { results := [.lit (.bool true)], args := [d1, d2] }
  | _ => none }
def recordWithoutMatchesSpecRow : OpenClaim := { program := "ytnnofignhdijiaa", sum := "3c1772f9d6f9eea98ecb2d18bde64171358a37c95afb0c01e8ca502908c5287b", func := "harrier/harrierlaw2.RecordWithoutMatchesSpec", spec := "recordWithoutMatchesSpec", unfollowed := true, recurses := true, apart := false }
def RecordWithoutMatchesSpecSaid : Prop := recordWithoutMatchesSpecRow.holds Try.pinned (OpenSpec.ofChange recordWithoutMatchesSpecSpec)

/-- ITS FALSE NEIGHBOUR: 'it returns false'. Refute it at one input. -/
def recordWithoutMatchesSpecWrong : ChangeSpec := { name := "recordWithoutMatchesSpec", fn := fun _ => fun
  | [d1, d2] => { results := [.lit (.bool false)], args := [d1, d2] }
  | _ => none }
def RecordWithoutMatchesSpecWrongFalsely : Prop := recordWithoutMatchesSpecRow.holds Try.pinned (OpenSpec.ofChange recordWithoutMatchesSpecWrong)

/-- 'harrierlaw2.RecordFindsMatchSpec': WHATEVER THE INPUT: true; the input reads as it did. -/
def recordFindsMatchSpecSpec : ChangeSpec := { name := "recordFindsMatchSpec", fn := fun _ => fun
  | [d1, d2] => { results := [.lit (.bool true)], args := [d1, d2] }
  | _ => none }
def recordFindsMatchSpecRow : OpenClaim := { program := "ytnnofignhdijiaa", sum := "3c1772f9d6f9eea98ecb2d18bde64171358a37c95afb0c01e8ca502908c5287b", func := "harrier/harrierlaw2.RecordFindsMatchSpec", spec := "recordFindsMatchSpec", unfollowed := true, recurses := true, apart := false }
def RecordFindsMatchSpecSaid : Prop := recordFindsMatchSpecRow.holds Try.pinned (OpenSpec.ofChange recordFindsMatchSpecSpec)

/-- ITS FALSE NEIGHBOUR: 'it returns false'. Refute it at one input. -/
def recordFindsMatchSpecWrong : ChangeSpec := { name := "recordFindsMatchSpec", fn := fun _ => fun
  | [d1, d2] => { results := [.lit (.bool false)], args := [d1, d2] }
  | _ => none }
def RecordFindsMatchSpecWrongFalsely : Prop := recordFindsMatchSpecRow.holds Try.pinned (OpenSpec.ofChange recordFindsMatchSpecWrong)

/-- 'harrierlaw2.RecordReadsMatchSpec': WHATEVER THE INPUT: true; the input reads as it did. -/
def recordReadsMatchSpecSpec : ChangeSpec := { name := "recordReadsMatchSpec", fn := fun _ => fun
  | [d] => { results := [.lit (.bool true)], args := [d] }
  | _ => none }
def recordReadsMatchSpecRow : OpenClaim := { program := "ytnnofignhdijiaa", sum := "3c1772f9d6f9eea98ecb2d18bde64171358a37c95afb0c01e8ca502908c5287b", func := "harrier/harrierlaw2.RecordReadsMatchSpec", spec := "recordReadsMatchSpec", unfollowed := true, recurses := true, apart := false }
def RecordReadsMatchSpecSaid : Prop := recordReadsMatchSpecRow.holds Try.pinned (OpenSpec.ofChange recordReadsMatchSpecSpec)

/-- ITS FALSE NEIGHBOUR: 'it returns false'. Refute it at one input. -/
def recordReadsMatchSpecWrong : ChangeSpec := { name := "recordReadsMatchSpec", fn := fun _ => fun
  | [d] => { results := [.lit (.bool false)], args := [d] }
  | _ => none }
def RecordReadsMatchSpecWrongFalsely : Prop := recordReadsMatchSpecRow.holds Try.pinned (OpenSpec.ofChange recordReadsMatchSpecWrong)

/-- 'harrierlaw2.RecordBytesComeBack': WHATEVER THE INPUT: true; the input reads as it did. -/
def recordBytesComeBackSpec : ChangeSpec := { name := "recordBytesComeBack", fn := fun _ => fun
  | [d1, d2] => { results := [.lit (.bool true)], args := [d1, d2] }
  | _ => none }
def recordBytesComeBackRow : OpenClaim := { program := "ytnnofignhdijiaa", sum := "3c1772f9d6f9eea98ecb2d18bde64171358a37c95afb0c01e8ca502908c5287b", func := "harrier/harrierlaw2.RecordBytesComeBack", spec := "recordBytesComeBack", unfollowed := true, recurses := true, apart := false }
def RecordBytesComeBackSaid : Prop := recordBytesComeBackRow.holds Try.pinned (OpenSpec.ofChange recordBytesComeBackSpec)

/-- ITS FALSE NEIGHBOUR: 'it returns false'. Refute it at one input. -/
def recordBytesComeBackWrong : ChangeSpec := { name := "recordBytesComeBack", fn := fun _ => fun
  | [d1, d2] => { results := [.lit (.bool false)], args := [d1, d2] }
  | _ => none }
def RecordBytesComeBackWrongFalsely : Prop := recordBytesComeBackRow.holds Try.pinned (OpenSpec.ofChange recordBytesComeBackWrong)

/-- 'harrierlaw2.RecordActivitiesMatchSpec': WHATEVER THE INPUT: true; the input reads as it did. -/
def recordActivitiesMatchSpecSpec : ChangeSpec := { name := "recordActivitiesMatchSpec", fn := fun _ => fun
  | [d] => { results := [.lit (.bool true)], args := [d] }
  | _ => none }
def recordActivitiesMatchSpecRow : OpenClaim := { program := "ytnnofignhdijiaa", sum := "3c1772f9d6f9eea98ecb2d18bde64171358a37c95afb0c01e8ca502908c5287b", func := "harrier/harrierlaw2.RecordActivitiesMatchSpec", spec := "recordActivitiesMatchSpec", inPlace := ["internal/bytealg.IndexByteString", "internal/bytealg.IndexString"], unfollowed := true, recurses := true, named := ["internal/bytealg.MaxLen"], apart := false }
def RecordActivitiesMatchSpecSaid : Prop := recordActivitiesMatchSpecRow.holds Try.pinned (OpenSpec.ofChange recordActivitiesMatchSpecSpec)

/-- ITS FALSE NEIGHBOUR: 'it returns false'. Refute it at one input. -/
def recordActivitiesMatchSpecWrong : ChangeSpec := { name := "recordActivitiesMatchSpec", fn := fun _ => fun
  | [d] => { results := [.lit (.bool false)], args := [d] }
  | _ => none }
def RecordActivitiesMatchSpecWrongFalsely : Prop := recordActivitiesMatchSpecRow.holds Try.pinned (OpenSpec.ofChange recordActivitiesMatchSpecWrong)

/-- 'harrierlaw2.RecordValuesMatchSpec': WHATEVER THE INPUT: true; the input reads as it did. -/
def recordValuesMatchSpecSpec : ChangeSpec := { name := "recordValuesMatchSpec", fn := fun _ => fun
  | [d1, d2, d3] => { results := [.lit (.bool true)], args := [d1, d2, d3] }
  | _ => none }
def recordValuesMatchSpecRow : OpenClaim := { program := "ytnnofignhdijiaa", sum := "3c1772f9d6f9eea98ecb2d18bde64171358a37c95afb0c01e8ca502908c5287b", func := "harrier/harrierlaw2.RecordValuesMatchSpec", spec := "recordValuesMatchSpec", inPlace := ["internal/bytealg.IndexByteString", "internal/bytealg.IndexString"], unfollowed := true, recurses := true, named := ["internal/bytealg.MaxLen"], apart := false }
def RecordValuesMatchSpecSaid : Prop := recordValuesMatchSpecRow.holds Try.pinned (OpenSpec.ofChange recordValuesMatchSpecSpec)

/-- ITS FALSE NEIGHBOUR: 'it returns false'. Refute it at one input. -/
def recordValuesMatchSpecWrong : ChangeSpec := { name := "recordValuesMatchSpec", fn := fun _ => fun
  | [d1, d2, d3] => { results := [.lit (.bool false)], args := [d1, d2, d3] }
  | _ => none }
def RecordValuesMatchSpecWrongFalsely : Prop := recordValuesMatchSpecRow.holds Try.pinned (OpenSpec.ofChange recordValuesMatchSpecWrong)

/-- 'harrierlaw2.RecordSetKeepsAll': WHATEVER THE INPUT: true; the input reads as it did. -/
def recordSetKeepsAllSpec : ChangeSpec := { name := "recordSetKeepsAll", fn := fun _ => fun
  | [d1, d2, d3] => { results := [.lit (.bool true)], args := [d1, d2, d3] }
  | _ => none }
def recordSetKeepsAllRow : OpenClaim := { program := "ytnnofignhdijiaa", sum := "3c1772f9d6f9eea98ecb2d18bde64171358a37c95afb0c01e8ca502908c5287b", func := "harrier/harrierlaw2.RecordSetKeepsAll", spec := "recordSetKeepsAll", inPlace := ["internal/bytealg.IndexByteString", "internal/bytealg.IndexString"], unfollowed := true, recurses := true, named := ["internal/bytealg.MaxLen"], apart := false }
def RecordSetKeepsAllSaid : Prop := recordSetKeepsAllRow.holds Try.pinned (OpenSpec.ofChange recordSetKeepsAllSpec)

/-- ITS FALSE NEIGHBOUR: 'it returns false'. Refute it at one input. -/
def recordSetKeepsAllWrong : ChangeSpec := { name := "recordSetKeepsAll", fn := fun _ => fun
  | [d1, d2, d3] => { results := [.lit (.bool false)], args := [d1, d2, d3] }
  | _ => none }
def RecordSetKeepsAllWrongFalsely : Prop := recordSetKeepsAllRow.holds Try.pinned (OpenSpec.ofChange recordSetKeepsAllWrong)

/-- 'harrierlaw2.RecordActivitiesComeBack': WHATEVER THE INPUT: true; the input reads as it did. -/
def recordActivitiesComeBackSpec : ChangeSpec := { name := "recordActivitiesComeBack", fn := fun _ => fun
  | [d1, d2] => { results := [.lit (.bool true)], args := [d1, d2] }
  | _ => none }
def recordActivitiesComeBackRow : OpenClaim := { program := "ytnnofignhdijiaa", sum := "3c1772f9d6f9eea98ecb2d18bde64171358a37c95afb0c01e8ca502908c5287b", func := "harrier/harrierlaw2.RecordActivitiesComeBack", spec := "recordActivitiesComeBack", inPlace := ["internal/bytealg.IndexByteString", "internal/bytealg.IndexString"], unfollowed := true, recurses := true, named := ["internal/bytealg.MaxLen"], apart := false }
def RecordActivitiesComeBackSaid : Prop := recordActivitiesComeBackRow.holds Try.pinned (OpenSpec.ofChange recordActivitiesComeBackSpec)

/-- ITS FALSE NEIGHBOUR: 'it returns false'. Refute it at one input. -/
def recordActivitiesComeBackWrong : ChangeSpec := { name := "recordActivitiesComeBack", fn := fun _ => fun
  | [d1, d2] => { results := [.lit (.bool false)], args := [d1, d2] }
  | _ => none }
def RecordActivitiesComeBackWrongFalsely : Prop := recordActivitiesComeBackRow.holds Try.pinned (OpenSpec.ofChange recordActivitiesComeBackWrong)

/- THE SECOND FORM. 'bulk': how many values and letters a reading holds, each counted each time it is reached (what is shared counts as often as it is met; a slice's spare places count too). A statement '..UptoSaid' is the law's where the arguments, and the package variables that the reading takes, are together of bulk at most 1048576: NARROWER than '..Said'. Prove '..Said' where nothing that the law and all that it calls make is longer than what came in: it says more and counts as full. Else prove '..UptoSaid'. A law counts once. -/
mutual
def uptoBulk {H : Type} : DataW H → Nat
  | .lit (.string bytes) => bytes.length + 1
  | .lit _ => 1
  | .nil => 1
  | .ptr d => uptoBulk d + 1
  | .slice elems spare => uptoBulkAll elems + uptoBulkAll spare + 1
  | .agg parts => uptoBulkAll parts + 1
  | .iface _ d => uptoBulk d + 1
  | .map entries => uptoBulkEntries entries + 1
  | .held _ => 1
def uptoBulkAll {H : Type} : List (DataW H) → Nat
  | [] => 0
  | d :: r => uptoBulk d + uptoBulkAll r
def uptoBulkEntries {H : Type} : List (Lit × DataW H) → Nat
  | [] => 0
  | x :: r => uptoBulkEntry x + uptoBulkEntries r
def uptoBulkEntry {H : Type} : Lit × DataW H → Nat
  | (.string bytes, d) => bytes.length + uptoBulk d + 1
  | (_, d) => uptoBulk d + 1
 end
def uptoSmall : (H : Type) → List (DataW H) → Bool := fun _ ds => decide (uptoBulkAll ds ≤ 1048576)
def OpenSpec.upto (s : _root_.Go.ChangeSpec) : _root_.Go.OpenSpec := { _root_.Go.OpenSpec.ofChange s with cond := some uptoSmall }

/-- 'harrierlaw2.RecordCheckMatchesSpec', WHERE WHAT IT READS IS OF BULK AT MOST 1048576: true; the input reads as it did. -/
def recordCheckMatchesSpecUptoRow : OpenClaim := { program := "ytnnofignhdijiaa", sum := "3c1772f9d6f9eea98ecb2d18bde64171358a37c95afb0c01e8ca502908c5287b", func := "harrier/harrierlaw2.RecordCheckMatchesSpec", spec := "recordCheckMatchesSpec", unfollowed := true, recurses := true, apart := false, narrowed := true }
def RecordCheckMatchesSpecUptoSaid : Prop := recordCheckMatchesSpecUptoRow.holds Try.pinned (OpenSpec.upto recordCheckMatchesSpecSpec)

/-- 'harrierlaw2.RecordFilesMatchSpec', WHERE WHAT IT READS IS OF BULK AT MOST 1048576: true; the input reads as it did. -/
def recordFilesMatchSpecUptoRow : OpenClaim := { program := "ytnnofignhdijiaa", sum := "3c1772f9d6f9eea98ecb2d18bde64171358a37c95afb0c01e8ca502908c5287b", func := "harrier/harrierlaw2.RecordFilesMatchSpec", spec := "recordFilesMatchSpec", unfollowed := true, recurses := true, apart := false, narrowed := true }
def RecordFilesMatchSpecUptoSaid : Prop := recordFilesMatchSpecUptoRow.holds Try.pinned (OpenSpec.upto recordFilesMatchSpecSpec)

/-- 'harrierlaw2.RecordWithoutMatchesSpec', WHERE WHAT IT READS IS OF BULK AT MOST 1048576: true; the input reads as it did. -/
def recordWithoutMatchesSpecUptoRow : OpenClaim := { program := "ytnnofignhdijiaa", sum := "3c1772f9d6f9eea98ecb2d18bde64171358a37c95afb0c01e8ca502908c5287b", func := "harrier/harrierlaw2.RecordWithoutMatchesSpec", spec := "recordWithoutMatchesSpec", unfollowed := true, recurses := true, apart := false, narrowed := true }
def RecordWithoutMatchesSpecUptoSaid : Prop := recordWithoutMatchesSpecUptoRow.holds Try.pinned (OpenSpec.upto recordWithoutMatchesSpecSpec)

/-- 'harrierlaw2.RecordFindsMatchSpec', WHERE WHAT IT READS IS OF BULK AT MOST 1048576: true; the input reads as it did. -/
def recordFindsMatchSpecUptoRow : OpenClaim := { program := "ytnnofignhdijiaa", sum := "3c1772f9d6f9eea98ecb2d18bde64171358a37c95afb0c01e8ca502908c5287b", func := "harrier/harrierlaw2.RecordFindsMatchSpec", spec := "recordFindsMatchSpec", unfollowed := true, recurses := true, apart := false, narrowed := true }
def RecordFindsMatchSpecUptoSaid : Prop := recordFindsMatchSpecUptoRow.holds Try.pinned (OpenSpec.upto recordFindsMatchSpecSpec)

/-- 'harrierlaw2.RecordReadsMatchSpec', WHERE WHAT IT READS IS OF BULK AT MOST 1048576: true; the input reads as it did. -/
def recordReadsMatchSpecUptoRow : OpenClaim := { program := "ytnnofignhdijiaa", sum := "3c1772f9d6f9eea98ecb2d18bde64171358a37c95afb0c01e8ca502908c5287b", func := "harrier/harrierlaw2.RecordReadsMatchSpec", spec := "recordReadsMatchSpec", unfollowed := true, recurses := true, apart := false, narrowed := true }
def RecordReadsMatchSpecUptoSaid : Prop := recordReadsMatchSpecUptoRow.holds Try.pinned (OpenSpec.upto recordReadsMatchSpecSpec)

/-- 'harrierlaw2.RecordBytesComeBack', WHERE WHAT IT READS IS OF BULK AT MOST 1048576: true; the input reads as it did. -/
def recordBytesComeBackUptoRow : OpenClaim := { program := "ytnnofignhdijiaa", sum := "3c1772f9d6f9eea98ecb2d18bde64171358a37c95afb0c01e8ca502908c5287b", func := "harrier/harrierlaw2.RecordBytesComeBack", spec := "recordBytesComeBack", unfollowed := true, recurses := true, apart := false, narrowed := true }
def RecordBytesComeBackUptoSaid : Prop := recordBytesComeBackUptoRow.holds Try.pinned (OpenSpec.upto recordBytesComeBackSpec)

/-- 'harrierlaw2.RecordActivitiesMatchSpec', WHERE WHAT IT READS IS OF BULK AT MOST 1048576: true; the input reads as it did. -/
def recordActivitiesMatchSpecUptoRow : OpenClaim := { program := "ytnnofignhdijiaa", sum := "3c1772f9d6f9eea98ecb2d18bde64171358a37c95afb0c01e8ca502908c5287b", func := "harrier/harrierlaw2.RecordActivitiesMatchSpec", spec := "recordActivitiesMatchSpec", inPlace := ["internal/bytealg.IndexByteString", "internal/bytealg.IndexString"], unfollowed := true, recurses := true, named := ["internal/bytealg.MaxLen"], apart := false, narrowed := true }
def RecordActivitiesMatchSpecUptoSaid : Prop := recordActivitiesMatchSpecUptoRow.holds Try.pinned (OpenSpec.upto recordActivitiesMatchSpecSpec)

/-- 'harrierlaw2.RecordValuesMatchSpec', WHERE WHAT IT READS IS OF BULK AT MOST 1048576: true; the input reads as it did. -/
def recordValuesMatchSpecUptoRow : OpenClaim := { program := "ytnnofignhdijiaa", sum := "3c1772f9d6f9eea98ecb2d18bde64171358a37c95afb0c01e8ca502908c5287b", func := "harrier/harrierlaw2.RecordValuesMatchSpec", spec := "recordValuesMatchSpec", inPlace := ["internal/bytealg.IndexByteString", "internal/bytealg.IndexString"], unfollowed := true, recurses := true, named := ["internal/bytealg.MaxLen"], apart := false, narrowed := true }
def RecordValuesMatchSpecUptoSaid : Prop := recordValuesMatchSpecUptoRow.holds Try.pinned (OpenSpec.upto recordValuesMatchSpecSpec)

/-- 'harrierlaw2.RecordSetKeepsAll', WHERE WHAT IT READS IS OF BULK AT MOST 1048576: true; the input reads as it did. -/
def recordSetKeepsAllUptoRow : OpenClaim := { program := "ytnnofignhdijiaa", sum := "3c1772f9d6f9eea98ecb2d18bde64171358a37c95afb0c01e8ca502908c5287b", func := "harrier/harrierlaw2.RecordSetKeepsAll", spec := "recordSetKeepsAll", inPlace := ["internal/bytealg.IndexByteString", "internal/bytealg.IndexString"], unfollowed := true, recurses := true, named := ["internal/bytealg.MaxLen"], apart := false, narrowed := true }
def RecordSetKeepsAllUptoSaid : Prop := recordSetKeepsAllUptoRow.holds Try.pinned (OpenSpec.upto recordSetKeepsAllSpec)

/-- 'harrierlaw2.RecordActivitiesComeBack', WHERE WHAT IT READS IS OF BULK AT MOST 1048576: true; the input reads as it did. -/
def recordActivitiesComeBackUptoRow : OpenClaim := { program := "ytnnofignhdijiaa", sum := "3c1772f9d6f9eea98ecb2d18bde64171358a37c95afb0c01e8ca502908c5287b", func := "harrier/harrierlaw2.RecordActivitiesComeBack", spec := "recordActivitiesComeBack", inPlace := ["internal/bytealg.IndexByteString", "internal/bytealg.IndexString"], unfollowed := true, recurses := true, named := ["internal/bytealg.MaxLen"], apart := false, narrowed := true }
def RecordActivitiesComeBackUptoSaid : Prop := recordActivitiesComeBackUptoRow.holds Try.pinned (OpenSpec.upto recordActivitiesComeBackSpec)

end Rows
end Go.Proofs.Ytnnofignhdijiaa
