/-
  No cell of these rows narrows 'for every input' (looked for: loops, veiled, ifaces, maps, wideKeys, modest, calm, conditions, laid).
  DERIVED. THE GIVEN ROWS OF THIS SEAT. 8 by the template 'for every input the law returns true; each argument reads behind the call as it read before'; 0 by the template 'total and deterministic' (their statements: YtefmjfcdgadggaaTotals.lean).
  GIVEN WITH THE SEED: the statements are not yours to turn. If you find one false, say at which input.
  Laid BY PROGRAM, IN A SANDBOX (cutbox-rows.mjs): the forced cells as the released guide's own fill.sh prints them over the translation 3bb8aabc684c5d6a… (all of the seat's roots in one cut). By AI agents, Wed Nov 11 2026. No macro, syntax, notation, axiom, sorry.
-/
import Derived.Test.YtefmjfcdgadggaaChecked
import GoSem.Claim
import GoSem.ClaimJoined
import GoSem.ClaimMapViews
import Derived.JoinedTies
import Derived.KernelRfl
namespace Go.Proofs.Ytefmjfcdgadggaa
/- THE CELL 'sum', in the pinned program and in every row, IS THE sha256 OF THE DUMP (.gsa) THAT YtefmjfcdgadggaaProg.lean LOADS. Nothing in Lean hashes anything: it is a label: what it is worth is what the hold of that sum in a sandbox is worth. -/
noncomputable def Try.pinned : Pinned := { name := "ytefmjfcdgadggaa", sum := "3bb8aabc684c5d6a223784667e24690ad0bc7aff85afcedfbe0fe7ba26e36712", checked := Try.checked }
namespace Rows
def none {H : Type} : Left H := { results := [], args := [] }

/-- 'harrierlaw8.SeasonBestMatchesSpec': WHATEVER THE INPUT: true; the input reads as it did. -/
def seasonBestMatchesSpecSpec : ChangeSpec := { name := "seasonBestMatchesSpec", fn := fun _ => fun
  | [d1, d2] => { results := [.lit (.bool true)], args := [d1, d2] }
  | _ => none }
def seasonBestMatchesSpecRow : OpenClaim := { program := "ytefmjfcdgadggaa", sum := "3bb8aabc684c5d6a223784667e24690ad0bc7aff85afcedfbe0fe7ba26e36712", func := "harrier/harrierlaw8.SeasonBestMatchesSpec", spec := "seasonBestMatchesSpec", unfollowed := true, recurses := true, plainKeys := false, apart := false }
def SeasonBestMatchesSpecSaid : Prop := seasonBestMatchesSpecRow.holds Try.pinned (OpenSpec.ofChange seasonBestMatchesSpecSpec)

/-- ITS FALSE NEIGHBOUR: 'it returns false'. Refute it at one input. -/
def seasonBestMatchesSpecWrong : ChangeSpec := { name := "seasonBestMatchesSpec", fn := fun _ => fun
  | [d1, d2] => { results := [.lit (.bool false)], args := [d1, d2] }
  | _ => none }
def SeasonBestMatchesSpecWrongFalsely : Prop := seasonBestMatchesSpecRow.holds Try.pinned (OpenSpec.ofChange seasonBestMatchesSpecWrong)

/-- 'harrierlaw8.SeasonCheckMatchesSpec': WHATEVER THE INPUT: true; the input reads as it did. -/
def seasonCheckMatchesSpecSpec : ChangeSpec := { name := "seasonCheckMatchesSpec", fn := fun _ => fun
  | [d1, d2] => { results := [.lit (.bool true)], args := [d1, d2] }
  | _ => none }
def seasonCheckMatchesSpecRow : OpenClaim := { program := "ytefmjfcdgadggaa", sum := "3bb8aabc684c5d6a223784667e24690ad0bc7aff85afcedfbe0fe7ba26e36712", func := "harrier/harrierlaw8.SeasonCheckMatchesSpec", spec := "seasonCheckMatchesSpec", unfollowed := true, recurses := true, plainKeys := false, apart := false }
def SeasonCheckMatchesSpecSaid : Prop := seasonCheckMatchesSpecRow.holds Try.pinned (OpenSpec.ofChange seasonCheckMatchesSpecSpec)

/-- ITS FALSE NEIGHBOUR: 'it returns false'. Refute it at one input. -/
def seasonCheckMatchesSpecWrong : ChangeSpec := { name := "seasonCheckMatchesSpec", fn := fun _ => fun
  | [d1, d2] => { results := [.lit (.bool false)], args := [d1, d2] }
  | _ => none }
def SeasonCheckMatchesSpecWrongFalsely : Prop := seasonCheckMatchesSpecRow.holds Try.pinned (OpenSpec.ofChange seasonCheckMatchesSpecWrong)

/-- 'harrierlaw8.SeasonMendMatchesSpec': WHATEVER THE INPUT: true; the input reads as it did. -/
def seasonMendMatchesSpecSpec : ChangeSpec := { name := "seasonMendMatchesSpec", fn := fun _ => fun
  | [d1, d2, d3] => { results := [.lit (.bool true)], args := [d1, d2, d3] }
  | _ => none }
def seasonMendMatchesSpecRow : OpenClaim := { program := "ytefmjfcdgadggaa", sum := "3bb8aabc684c5d6a223784667e24690ad0bc7aff85afcedfbe0fe7ba26e36712", func := "harrier/harrierlaw8.SeasonMendMatchesSpec", spec := "seasonMendMatchesSpec", unfollowed := true, recurses := true, plainKeys := false, apart := false }
def SeasonMendMatchesSpecSaid : Prop := seasonMendMatchesSpecRow.holds Try.pinned (OpenSpec.ofChange seasonMendMatchesSpecSpec)

/-- ITS FALSE NEIGHBOUR: 'it returns false'. Refute it at one input. -/
def seasonMendMatchesSpecWrong : ChangeSpec := { name := "seasonMendMatchesSpec", fn := fun _ => fun
  | [d1, d2, d3] => { results := [.lit (.bool false)], args := [d1, d2, d3] }
  | _ => none }
def SeasonMendMatchesSpecWrongFalsely : Prop := seasonMendMatchesSpecRow.holds Try.pinned (OpenSpec.ofChange seasonMendMatchesSpecWrong)

/-- 'harrierlaw8.SeasonReasonIsEnough': WHATEVER THE INPUT: true; the input reads as it did. -/
def seasonReasonIsEnoughSpec : ChangeSpec := { name := "seasonReasonIsEnough", fn := fun _ => fun
  | [d1, d2] => { results := [.lit (.bool true)], args := [d1, d2] }
  | _ => none }
def seasonReasonIsEnoughRow : OpenClaim := { program := "ytefmjfcdgadggaa", sum := "3bb8aabc684c5d6a223784667e24690ad0bc7aff85afcedfbe0fe7ba26e36712", func := "harrier/harrierlaw8.SeasonReasonIsEnough", spec := "seasonReasonIsEnough", unfollowed := true, recurses := true, plainKeys := false, apart := false }
def SeasonReasonIsEnoughSaid : Prop := seasonReasonIsEnoughRow.holds Try.pinned (OpenSpec.ofChange seasonReasonIsEnoughSpec)

/-- ITS FALSE NEIGHBOUR: 'it returns false'. Refute it at one input. -/
def seasonReasonIsEnoughWrong : ChangeSpec := { name := "seasonReasonIsEnough", fn := fun _ => fun
  | [d1, d2] => { results := [.lit (.bool false)], args := [d1, d2] }
  | _ => none }
def SeasonReasonIsEnoughWrongFalsely : Prop := seasonReasonIsEnoughRow.holds Try.pinned (OpenSpec.ofChange seasonReasonIsEnoughWrong)

/-- 'harrierlaw8.SeasonReasonMatchesSpec': WHATEVER THE INPUT: true; the input reads as it did. -/
def seasonReasonMatchesSpecSpec : ChangeSpec := { name := "seasonReasonMatchesSpec", fn := fun _ => fun
  | [d1, d2] => { results := [.lit (.bool true)], args := [d1, d2] }
  | _ => none }
def seasonReasonMatchesSpecRow : OpenClaim := { program := "ytefmjfcdgadggaa", sum := "3bb8aabc684c5d6a223784667e24690ad0bc7aff85afcedfbe0fe7ba26e36712", func := "harrier/harrierlaw8.SeasonReasonMatchesSpec", spec := "seasonReasonMatchesSpec", unfollowed := true, recurses := true, plainKeys := false, apart := false }
def SeasonReasonMatchesSpecSaid : Prop := seasonReasonMatchesSpecRow.holds Try.pinned (OpenSpec.ofChange seasonReasonMatchesSpecSpec)

/-- ITS FALSE NEIGHBOUR: 'it returns false'. Refute it at one input. -/
def seasonReasonMatchesSpecWrong : ChangeSpec := { name := "seasonReasonMatchesSpec", fn := fun _ => fun
  | [d1, d2] => { results := [.lit (.bool false)], args := [d1, d2] }
  | _ => none }
def SeasonReasonMatchesSpecWrongFalsely : Prop := seasonReasonMatchesSpecRow.holds Try.pinned (OpenSpec.ofChange seasonReasonMatchesSpecWrong)

/-- 'harrierlaw8.SeasonBestIsBest': WHATEVER THE INPUT: true; the input reads as it did. -/
def seasonBestIsBestSpec : ChangeSpec := { name := "seasonBestIsBest", fn := fun _ => fun
  | [d1, d2, d3] => { results := [.lit (.bool true)], args := [d1, d2, d3] }
  | _ => none }
def seasonBestIsBestRow : OpenClaim := { program := "ytefmjfcdgadggaa", sum := "3bb8aabc684c5d6a223784667e24690ad0bc7aff85afcedfbe0fe7ba26e36712", func := "harrier/harrierlaw8.SeasonBestIsBest", spec := "seasonBestIsBest", unfollowed := true, recurses := true, plainKeys := false, apart := false }
def SeasonBestIsBestSaid : Prop := seasonBestIsBestRow.holds Try.pinned (OpenSpec.ofChange seasonBestIsBestSpec)

/-- ITS FALSE NEIGHBOUR: 'it returns false'. Refute it at one input. -/
def seasonBestIsBestWrong : ChangeSpec := { name := "seasonBestIsBest", fn := fun _ => fun
  | [d1, d2, d3] => { results := [.lit (.bool false)], args := [d1, d2, d3] }
  | _ => none }
def SeasonBestIsBestWrongFalsely : Prop := seasonBestIsBestRow.holds Try.pinned (OpenSpec.ofChange seasonBestIsBestWrong)

/-- 'harrierlaw8.SeasonDiffMatchesSpec': WHATEVER THE INPUT: true; the input reads as it did. -/
def seasonDiffMatchesSpecSpec : ChangeSpec := { name := "seasonDiffMatchesSpec", fn := fun _ => fun
  | [d1, d2] => { results := [.lit (.bool true)], args := [d1, d2] }
  | _ => none }
def seasonDiffMatchesSpecRow : OpenClaim := { program := "ytefmjfcdgadggaa", sum := "3bb8aabc684c5d6a223784667e24690ad0bc7aff85afcedfbe0fe7ba26e36712", func := "harrier/harrierlaw8.SeasonDiffMatchesSpec", spec := "seasonDiffMatchesSpec", unfollowed := true, recurses := true, plainKeys := false, apart := false }
def SeasonDiffMatchesSpecSaid : Prop := seasonDiffMatchesSpecRow.holds Try.pinned (OpenSpec.ofChange seasonDiffMatchesSpecSpec)

/-- ITS FALSE NEIGHBOUR: 'it returns false'. Refute it at one input. -/
def seasonDiffMatchesSpecWrong : ChangeSpec := { name := "seasonDiffMatchesSpec", fn := fun _ => fun
  | [d1, d2] => { results := [.lit (.bool false)], args := [d1, d2] }
  | _ => none }
def SeasonDiffMatchesSpecWrongFalsely : Prop := seasonDiffMatchesSpecRow.holds Try.pinned (OpenSpec.ofChange seasonDiffMatchesSpecWrong)

/-- 'harrierlaw8.SeasonKeepsMatchSpec': WHATEVER THE INPUT: true; the input reads as it did. -/
def seasonKeepsMatchSpecSpec : ChangeSpec := { name := "seasonKeepsMatchSpec", fn := fun _ => fun
  | [d1, d2, d3] => { results := [.lit (.bool true)], args := [d1, d2, d3] }
  | _ => none }
def seasonKeepsMatchSpecRow : OpenClaim := { program := "ytefmjfcdgadggaa", sum := "3bb8aabc684c5d6a223784667e24690ad0bc7aff85afcedfbe0fe7ba26e36712", func := "harrier/harrierlaw8.SeasonKeepsMatchSpec", spec := "seasonKeepsMatchSpec", unfollowed := true, recurses := true, plainKeys := false, apart := false }
def SeasonKeepsMatchSpecSaid : Prop := seasonKeepsMatchSpecRow.holds Try.pinned (OpenSpec.ofChange seasonKeepsMatchSpecSpec)

/-- ITS FALSE NEIGHBOUR: 'it returns false'. Refute it at one input. -/
def seasonKeepsMatchSpecWrong : ChangeSpec := { name := "seasonKeepsMatchSpec", fn := fun _ => fun
  | [d1, d2, d3] => { results := [.lit (.bool false)], args := [d1, d2, d3] }
  | _ => none }
def SeasonKeepsMatchSpecWrongFalsely : Prop := seasonKeepsMatchSpecRow.holds Try.pinned (OpenSpec.ofChange seasonKeepsMatchSpecWrong)

/- THE SECOND FORM. 'bulk': how many values and letters a reading holds, each counted each time it is reached (what is shared counts as often as it is met; a slice's spare places count too). A statement '..UptoSaid' is the law's where the arguments, and the package variables that the reading takes, are together of bulk at most 1048576: NARROWER than '..Said'. Prove '..Said' where nothing that the law and all that it calls make is longer than what came in: it says more and counts as full. Else prove '..UptoSaid'. A law counts once. -/
mutual
def uptoBulk {H : Type} : DataW H → Nat
  | .lit (.string bytes) => bytes.length + 1
  | .lit _ => 1
  | .nil => 1
  | .ptr d => uptoBulk d + 1
  | .slice elems spare => uptoBulkAll elems + uptoBulkAll spare + 1
  | .agg parts => uptoBulkAll parts + 1
  | .iface _ d => uptoBulk d + 1
  | .map entries => uptoBulkEntries entries + 1
  | .held _ => 1
def uptoBulkAll {H : Type} : List (DataW H) → Nat
  | [] => 0
  | d :: r => uptoBulk d + uptoBulkAll r
def uptoBulkEntries {H : Type} : List (Lit × DataW H) → Nat
  | [] => 0
  | x :: r => uptoBulkEntry x + uptoBulkEntries r
def uptoBulkEntry {H : Type} : Lit × DataW H → Nat
  | (.string bytes, d) => bytes.length + uptoBulk d + 1
  | (_, d) => uptoBulk d + 1
 end
def uptoSmall : (H : Type) → List (DataW H) → Bool := fun _ ds => decide (uptoBulkAll ds ≤ 1048576)
def OpenSpec.upto (s : _root_.Go.ChangeSpec) : _root_.Go.OpenSpec := { _root_.Go.OpenSpec.ofChange s with cond := some uptoSmall }

/-- 'harrierlaw8.SeasonBestMatchesSpec', WHERE WHAT IT READS IS OF BULK AT MOST 1048576: true; the input reads as it did. -/
def seasonBestMatchesSpecUptoRow : OpenClaim := { program := "ytefmjfcdgadggaa", sum := "3bb8aabc684c5d6a223784667e24690ad0bc7aff85afcedfbe0fe7ba26e36712", func := "harrier/harrierlaw8.SeasonBestMatchesSpec", spec := "seasonBestMatchesSpec", unfollowed := true, recurses := true, plainKeys := false, apart := false, narrowed := true }
def SeasonBestMatchesSpecUptoSaid : Prop := seasonBestMatchesSpecUptoRow.holds Try.pinned (OpenSpec.upto seasonBestMatchesSpecSpec)

/-- 'harrierlaw8.SeasonCheckMatchesSpec', WHERE WHAT IT READS IS OF BULK AT MOST 1048576: true; the input reads as it did. -/
def seasonCheckMatchesSpecUptoRow : OpenClaim := { program := "ytefmjfcdgadggaa", sum := "3bb8aabc684c5d6a223784667e24690ad0bc7aff85afcedfbe0fe7ba26e36712", func := "harrier/harrierlaw8.SeasonCheckMatchesSpec", spec := "seasonCheckMatchesSpec", unfollowed := true, recurses := true, plainKeys := false, apart := false, narrowed := true }
def SeasonCheckMatchesSpecUptoSaid : Prop := seasonCheckMatchesSpecUptoRow.holds Try.pinned (OpenSpec.upto seasonCheckMatchesSpecSpec)

/-- 'harrierlaw8.SeasonMendMatchesSpec', WHERE WHAT IT READS IS OF BULK AT MOST 1048576: true; the input reads as it did. -/
def seasonMendMatchesSpecUptoRow : OpenClaim := { program := "ytefmjfcdgadggaa", sum := "3bb8aabc684c5d6a223784667e24690ad0bc7aff85afcedfbe0fe7ba26e36712", func := "harrier/harrierlaw8.SeasonMendMatchesSpec", spec := "seasonMendMatchesSpec", unfollowed := true, recurses := true, plainKeys := false, apart := false, narrowed := true }
def SeasonMendMatchesSpecUptoSaid : Prop := seasonMendMatchesSpecUptoRow.holds Try.pinned (OpenSpec.upto seasonMendMatchesSpecSpec)

/-- 'harrierlaw8.SeasonReasonIsEnough', WHERE WHAT IT READS IS OF BULK AT MOST 1048576: true; the input reads as it did. -/
def seasonReasonIsEnoughUptoRow : OpenClaim := { program := "ytefmjfcdgadggaa", sum := "3bb8aabc684c5d6a223784667e24690ad0bc7aff85afcedfbe0fe7ba26e36712", func := "harrier/harrierlaw8.SeasonReasonIsEnough", spec := "seasonReasonIsEnough", unfollowed := true, recurses := true, plainKeys := false, apart := false, narrowed := true }
def SeasonReasonIsEnoughUptoSaid : Prop := seasonReasonIsEnoughUptoRow.holds Try.pinned (OpenSpec.upto seasonReasonIsEnoughSpec)

/-- 'harrierlaw8.SeasonReasonMatchesSpec', WHERE WHAT IT READS IS OF BULK AT MOST 1048576: true; the input reads as it did. -/
def seasonReasonMatchesSpecUptoRow : OpenClaim := { program := "ytefmjfcdgadggaa", sum := "3bb8aabc684c5d6a223784667e24690ad0bc7aff85afcedfbe0fe7ba26e36712", func := "harrier/harrierlaw8.SeasonReasonMatchesSpec", spec := "seasonReasonMatchesSpec", unfollowed := true, recurses := true, plainKeys := false, apart := false, narrowed := true }
def SeasonReasonMatchesSpecUptoSaid : Prop := seasonReasonMatchesSpecUptoRow.holds Try.pinned (OpenSpec.upto seasonReasonMatchesSpecSpec)

/-- 'harrierlaw8.SeasonBestIsBest', WHERE WHAT IT READS IS OF BULK AT MOST 1048576: true; the input reads as it did. -/
def seasonBestIsBestUptoRow : OpenClaim := { program := "ytefmjfcdgadggaa", sum := "3bb8aabc684c5d6a223784667e24690ad0bc7aff85afcedfbe0fe7ba26e36712", func := "harrier/harrierlaw8.SeasonBestIsBest", spec := "seasonBestIsBest", unfollowed := true, recurses := true, plainKeys := false, apart := false, narrowed := true }
def SeasonBestIsBestUptoSaid : Prop := seasonBestIsBestUptoRow.holds Try.pinned (OpenSpec.upto seasonBestIsBestSpec)

/-- 'harrierlaw8.SeasonDiffMatchesSpec', WHERE WHAT IT READS IS OF BULK AT MOST 1048576: true; the input reads as it did. -/
def seasonDiffMatchesSpecUptoRow : OpenClaim := { program := "ytefmjfcdgadggaa", sum := "3bb8aabc684c5d6a223784667e24690ad0bc7aff85afcedfbe0fe7ba26e36712", func := "harrier/harrierlaw8.SeasonDiffMatchesSpec", spec := "seasonDiffMatchesSpec", unfollowed := true, recurses := true, plainKeys := false, apart := false, narrowed := true }
def SeasonDiffMatchesSpecUptoSaid : Prop := seasonDiffMatchesSpecUptoRow.holds Try.pinned (OpenSpec.upto seasonDiffMatchesSpecSpec)

/-- 'harrierlaw8.SeasonKeepsMatchSpec', WHERE WHAT IT READS IS OF BULK AT MOST 1048576: true; the input reads as it did. -/
def seasonKeepsMatchSpecUptoRow : OpenClaim := { program := "ytefmjfcdgadggaa", sum := "3bb8aabc684c5d6a223784667e24690ad0bc7aff85afcedfbe0fe7ba26e36712", func := "harrier/harrierlaw8.SeasonKeepsMatchSpec", spec := "seasonKeepsMatchSpec", unfollowed := true, recurses := true, plainKeys := false, apart := false, narrowed := true }
def SeasonKeepsMatchSpecUptoSaid : Prop := seasonKeepsMatchSpecUptoRow.holds Try.pinned (OpenSpec.upto seasonKeepsMatchSpecSpec)

end Rows
end Go.Proofs.Ytefmjfcdgadggaa
