/-
  No cell of these rows narrows 'for every input' (looked for: loops, veiled, ifaces, maps, wideKeys, modest, calm, conditions, laid).
  DERIVED. THE GIVEN ROWS OF THIS SEAT. 6 by the template 'for every input the law returns true; each argument reads behind the call as it read before'; 0 by the template 'total and deterministic' (their statements: YteeakkakkjhgoaaTotals.lean).
  GIVEN WITH THE SEED: the statements are not yours to turn. If you find one false, say at which input.
  Laid BY PROGRAM, IN A SANDBOX (cutbox-rows.mjs): the forced cells as the released guide's own fill.sh prints them over the translation e27e50768141075b… (all of the seat's roots in one cut). By AI agents, Wed Nov 11 2026. No macro, syntax, notation, axiom, sorry.
-/
import Derived.Test.YteeakkakkjhgoaaChecked
import GoSem.Claim
import GoSem.ClaimJoined
import GoSem.ClaimMapViews
import Derived.JoinedTies
import Derived.KernelRfl
namespace Go.Proofs.Yteeakkakkjhgoaa
/- THE CELL 'sum', in the pinned program and in every row, IS THE sha256 OF THE DUMP (.gsa) THAT YteeakkakkjhgoaaProg.lean LOADS. Nothing in Lean hashes anything: it is a label: what it is worth is what the hold of that sum in a sandbox is worth. -/
noncomputable def Try.pinned : Pinned := { name := "yteeakkakkjhgoaa", sum := "e27e50768141075b930b267804dc828179a511e732e04cb88d2f7c94fcff1558", checked := Try.checked }
namespace Rows
def none {H : Type} : Left H := { results := [], args := [] }

/-- 'timesynclaw14.HoldoverChecks': WHATEVER THE INPUT: true; the input reads as it did. -/
def holdoverChecksSpec : ChangeSpec := { name := "holdoverChecks", fn := fun _ => fun
  | [d] => { results := [.lit (.bool true)], args := [d] }
  | _ => none }
def holdoverChecksRow : OpenClaim := { program := "yteeakkakkjhgoaa", sum := "e27e50768141075b930b267804dc828179a511e732e04cb88d2f7c94fcff1558", func := "timesync/timesynclaw14.HoldoverChecks", spec := "holdoverChecks", recurses := true, named := ["math/bits.divideError", "math/bits.overflowError"], apart := false }
def HoldoverChecksSaid : Prop := holdoverChecksRow.holds Try.pinned (OpenSpec.ofChange holdoverChecksSpec)

/-- ITS FALSE NEIGHBOUR: 'it returns false'. Refute it at one input. -/
def holdoverChecksWrong : ChangeSpec := { name := "holdoverChecks", fn := fun _ => fun
  | [d] => { results := [.lit (.bool false)], args := [d] }
  | _ => none }
def HoldoverChecksWrongFalsely : Prop := holdoverChecksRow.holds Try.pinned (OpenSpec.ofChange holdoverChecksWrong)

/-- 'timesynclaw14.HoldoverRuns': WHATEVER THE INPUT: true; the input reads as it did. -/
def holdoverRunsSpec : ChangeSpec := { name := "holdoverRuns", fn := fun _ => fun
  | [d1, d2] => { results := [.lit (.bool true)], args := [d1, d2] }
  | _ => none }
def holdoverRunsRow : OpenClaim := { program := "yteeakkakkjhgoaa", sum := "e27e50768141075b930b267804dc828179a511e732e04cb88d2f7c94fcff1558", func := "timesync/timesynclaw14.HoldoverRuns", spec := "holdoverRuns", recurses := true, named := ["math/bits.divideError", "math/bits.overflowError"], apart := false }
def HoldoverRunsSaid : Prop := holdoverRunsRow.holds Try.pinned (OpenSpec.ofChange holdoverRunsSpec)

/-- ITS FALSE NEIGHBOUR: 'it returns false'. Refute it at one input. -/
def holdoverRunsWrong : ChangeSpec := { name := "holdoverRuns", fn := fun _ => fun
  | [d1, d2] => { results := [.lit (.bool false)], args := [d1, d2] }
  | _ => none }
def HoldoverRunsWrongFalsely : Prop := holdoverRunsRow.holds Try.pinned (OpenSpec.ofChange holdoverRunsWrong)

/-- 'timesynclaw14.HoldoverErrors': WHATEVER THE INPUT: true; the input reads as it did. -/
def holdoverErrorsSpec : ChangeSpec := { name := "holdoverErrors", fn := fun _ => fun
  | [d1, d2, d3] => { results := [.lit (.bool true)], args := [d1, d2, d3] }
  | _ => none }
def holdoverErrorsRow : OpenClaim := { program := "yteeakkakkjhgoaa", sum := "e27e50768141075b930b267804dc828179a511e732e04cb88d2f7c94fcff1558", func := "timesync/timesynclaw14.HoldoverErrors", spec := "holdoverErrors", recurses := true, named := ["math/bits.divideError", "math/bits.overflowError"], apart := false }
def HoldoverErrorsSaid : Prop := holdoverErrorsRow.holds Try.pinned (OpenSpec.ofChange holdoverErrorsSpec)

/-- ITS FALSE NEIGHBOUR: 'it returns false'. Refute it at one input. -/
def holdoverErrorsWrong : ChangeSpec := { name := "holdoverErrors", fn := fun _ => fun
  | [d1, d2, d3] => { results := [.lit (.bool false)], args := [d1, d2, d3] }
  | _ => none }
def HoldoverErrorsWrongFalsely : Prop := holdoverErrorsRow.holds Try.pinned (OpenSpec.ofChange holdoverErrorsWrong)

/-- 'timesynclaw14.HoldoverGrows': WHATEVER THE INPUT: true; the input reads as it did. -/
def holdoverGrowsSpec : ChangeSpec := { name := "holdoverGrows", fn := fun _ => fun
  | [d1, d2, d3, d4] => { results := [.lit (.bool true)], args := [d1, d2, d3, d4] }
  | _ => none }
def holdoverGrowsRow : OpenClaim := { program := "yteeakkakkjhgoaa", sum := "e27e50768141075b930b267804dc828179a511e732e04cb88d2f7c94fcff1558", func := "timesync/timesynclaw14.HoldoverGrows", spec := "holdoverGrows", recurses := true, named := ["math/bits.divideError", "math/bits.overflowError"], apart := false }
def HoldoverGrowsSaid : Prop := holdoverGrowsRow.holds Try.pinned (OpenSpec.ofChange holdoverGrowsSpec)

/-- ITS FALSE NEIGHBOUR: 'it returns false'. Refute it at one input. -/
def holdoverGrowsWrong : ChangeSpec := { name := "holdoverGrows", fn := fun _ => fun
  | [d1, d2, d3, d4] => { results := [.lit (.bool false)], args := [d1, d2, d3, d4] }
  | _ => none }
def HoldoverGrowsWrongFalsely : Prop := holdoverGrowsRow.holds Try.pinned (OpenSpec.ofChange holdoverGrowsWrong)

/-- 'timesynclaw14.HoldoverForgets': WHATEVER THE INPUT: true; the input reads as it did. -/
def holdoverForgetsSpec : ChangeSpec := { name := "holdoverForgets", fn := fun _ => fun
  | [d1, d2] => { results := [.lit (.bool true)], args := [d1, d2] }
  | _ => none }
def holdoverForgetsRow : OpenClaim := { program := "yteeakkakkjhgoaa", sum := "e27e50768141075b930b267804dc828179a511e732e04cb88d2f7c94fcff1558", func := "timesync/timesynclaw14.HoldoverForgets", spec := "holdoverForgets", recurses := true, named := ["math/bits.divideError", "math/bits.overflowError"], apart := false }
def HoldoverForgetsSaid : Prop := holdoverForgetsRow.holds Try.pinned (OpenSpec.ofChange holdoverForgetsSpec)

/-- ITS FALSE NEIGHBOUR: 'it returns false'. Refute it at one input. -/
def holdoverForgetsWrong : ChangeSpec := { name := "holdoverForgets", fn := fun _ => fun
  | [d1, d2] => { results := [.lit (.bool false)], args := [d1, d2] }
  | _ => none }
def HoldoverForgetsWrongFalsely : Prop := holdoverForgetsRow.holds Try.pinned (OpenSpec.ofChange holdoverForgetsWrong)

/-- 'timesynclaw14.HoldoverNobody': WHATEVER THE INPUT: true; the input reads as it did. -/
def holdoverNobodySpec : ChangeSpec := { name := "holdoverNobody", fn := fun _ => fun
  | [d1, d2] => { results := [.lit (.bool true)], args := [d1, d2] }
  | _ => none }
def holdoverNobodyRow : OpenClaim := { program := "yteeakkakkjhgoaa", sum := "e27e50768141075b930b267804dc828179a511e732e04cb88d2f7c94fcff1558", func := "timesync/timesynclaw14.HoldoverNobody", spec := "holdoverNobody", recurses := true, named := ["math/bits.divideError", "math/bits.overflowError"], apart := false }
def HoldoverNobodySaid : Prop := holdoverNobodyRow.holds Try.pinned (OpenSpec.ofChange holdoverNobodySpec)

/-- ITS FALSE NEIGHBOUR: 'it returns false'. Refute it at one input. -/
def holdoverNobodyWrong : ChangeSpec := { name := "holdoverNobody", fn := fun _ => fun
  | [d1, d2] => { results := [.lit (.bool false)], args := [d1, d2] }
  | _ => none }
def HoldoverNobodyWrongFalsely : Prop := holdoverNobodyRow.holds Try.pinned (OpenSpec.ofChange holdoverNobodyWrong)

/- THE SECOND FORM. 'bulk': how many values and letters a reading holds, each counted each time it is reached (what is shared counts as often as it is met; a slice's spare places count too). A statement '..UptoSaid' is the law's where the arguments, and the package variables that the reading takes, are together of bulk at most 1048576: NARROWER than '..Said'. Prove '..Said' where nothing that the law and all that it calls make is longer than what came in: it says more and counts as full. Else prove '..UptoSaid'. A law counts once. -/
mutual
def uptoBulk {H : Type} : DataW H → Nat
  | .lit (.string bytes) => bytes.length + 1
  | .lit _ => 1
  | .nil => 1
  | .ptr d => uptoBulk d + 1
  | .slice elems spare => uptoBulkAll elems + uptoBulkAll spare + 1
  | .agg parts => uptoBulkAll parts + 1
  | .iface _ d => uptoBulk d + 1
  | .map entries => uptoBulkEntries entries + 1
  | .held _ => 1
def uptoBulkAll {H : Type} : List (DataW H) → Nat
  | [] => 0
  | d :: r => uptoBulk d + uptoBulkAll r
def uptoBulkEntries {H : Type} : List (Lit × DataW H) → Nat
  | [] => 0
  | x :: r => uptoBulkEntry x + uptoBulkEntries r
def uptoBulkEntry {H : Type} : Lit × DataW H → Nat
  | (.string bytes, d) => bytes.length + uptoBulk d + 1
  | (_, d) => uptoBulk d + 1
 end
def uptoSmall : (H : Type) → List (DataW H) → Bool := fun _ ds => decide (uptoBulkAll ds ≤ 1048576)
def OpenSpec.upto (s : _root_.Go.ChangeSpec) : _root_.Go.OpenSpec := { _root_.Go.OpenSpec.ofChange s with cond := some uptoSmall }

/-- 'timesynclaw14.HoldoverChecks', WHERE WHAT IT READS IS OF BULK AT MOST 1048576: true; the input reads as it did. -/
def holdoverChecksUptoRow : OpenClaim := { program := "yteeakkakkjhgoaa", sum := "e27e50768141075b930b267804dc828179a511e732e04cb88d2f7c94fcff1558", func := "timesync/timesynclaw14.HoldoverChecks", spec := "holdoverChecks", recurses := true, named := ["math/bits.divideError", "math/bits.overflowError"], apart := false, narrowed := true }
def HoldoverChecksUptoSaid : Prop := holdoverChecksUptoRow.holds Try.pinned (OpenSpec.upto holdoverChecksSpec)

/-- 'timesynclaw14.HoldoverRuns', WHERE WHAT IT READS IS OF BULK AT MOST 1048576: true; the input reads as it did. -/
def holdoverRunsUptoRow : OpenClaim := { program := "yteeakkakkjhgoaa", sum := "e27e50768141075b930b267804dc828179a511e732e04cb88d2f7c94fcff1558", func := "timesync/timesynclaw14.HoldoverRuns", spec := "holdoverRuns", recurses := true, named := ["math/bits.divideError", "math/bits.overflowError"], apart := false, narrowed := true }
def HoldoverRunsUptoSaid : Prop := holdoverRunsUptoRow.holds Try.pinned (OpenSpec.upto holdoverRunsSpec)

/-- 'timesynclaw14.HoldoverErrors', WHERE WHAT IT READS IS OF BULK AT MOST 1048576: true; the input reads as it did. -/
def holdoverErrorsUptoRow : OpenClaim := { program := "yteeakkakkjhgoaa", sum := "e27e50768141075b930b267804dc828179a511e732e04cb88d2f7c94fcff1558", func := "timesync/timesynclaw14.HoldoverErrors", spec := "holdoverErrors", recurses := true, named := ["math/bits.divideError", "math/bits.overflowError"], apart := false, narrowed := true }
def HoldoverErrorsUptoSaid : Prop := holdoverErrorsUptoRow.holds Try.pinned (OpenSpec.upto holdoverErrorsSpec)

/-- 'timesynclaw14.HoldoverGrows', WHERE WHAT IT READS IS OF BULK AT MOST 1048576: true; the input reads as it did. -/
def holdoverGrowsUptoRow : OpenClaim := { program := "yteeakkakkjhgoaa", sum := "e27e50768141075b930b267804dc828179a511e732e04cb88d2f7c94fcff1558", func := "timesync/timesynclaw14.HoldoverGrows", spec := "holdoverGrows", recurses := true, named := ["math/bits.divideError", "math/bits.overflowError"], apart := false, narrowed := true }
def HoldoverGrowsUptoSaid : Prop := holdoverGrowsUptoRow.holds Try.pinned (OpenSpec.upto holdoverGrowsSpec)

/-- 'timesynclaw14.HoldoverForgets', WHERE WHAT IT READS IS OF BULK AT MOST 1048576: true; the input reads as it did. -/
def holdoverForgetsUptoRow : OpenClaim := { program := "yteeakkakkjhgoaa", sum := "e27e50768141075b930b267804dc828179a511e732e04cb88d2f7c94fcff1558", func := "timesync/timesynclaw14.HoldoverForgets", spec := "holdoverForgets", recurses := true, named := ["math/bits.divideError", "math/bits.overflowError"], apart := false, narrowed := true }
def HoldoverForgetsUptoSaid : Prop := holdoverForgetsUptoRow.holds Try.pinned (OpenSpec.upto holdoverForgetsSpec)

/-- 'timesynclaw14.HoldoverNobody', WHERE WHAT IT READS IS OF BULK AT MOST 1048576: true; the input reads as it did. -/
def holdoverNobodyUptoRow : OpenClaim := { program := "yteeakkakkjhgoaa", sum := "e27e50768141075b930b267804dc828179a511e732e04cb88d2f7c94fcff1558", func := "timesync/timesynclaw14.HoldoverNobody", spec := "holdoverNobody", recurses := true, named := ["math/bits.divideError", "math/bits.overflowError"], apart := false, narrowed := true }
def HoldoverNobodyUptoSaid : Prop := holdoverNobodyUptoRow.holds Try.pinned (OpenSpec.upto holdoverNobodySpec)

end Rows
end Go.Proofs.Yteeakkakkjhgoaa
