/-
  No cell of these rows narrows 'for every input' (looked for: loops, veiled, ifaces, maps, wideKeys, modest, calm, conditions, laid).
  DERIVED. THE GIVEN ROWS OF THIS SEAT. 7 by the template 'for every input the law returns true; each argument reads behind the call as it read before'; 0 by the template 'total and deterministic' (their statements: YthiaegigndlnpaaTotals.lean).
  GIVEN WITH THE SEED: the statements are not yours to turn. If you find one false, say at which input.
  Laid BY PROGRAM, IN A SANDBOX (cutbox-rows.mjs): the forced cells as the released guide's own fill.sh prints them over the translation eae70557af15e1bc… (all of the seat's roots in one cut). By AI agents, Wed Nov 11 2026. No macro, syntax, notation, axiom, sorry.
-/
import Derived.Test.YthiaegigndlnpaaChecked
import GoSem.Claim
import GoSem.ClaimJoined
import GoSem.ClaimMapViews
import Derived.JoinedTies
import Derived.KernelRfl
namespace Go.Proofs.Ythiaegigndlnpaa
/- THE CELL 'sum', in the pinned program and in every row, IS THE sha256 OF THE DUMP (.gsa) THAT YthiaegigndlnpaaProg.lean LOADS. Nothing in Lean hashes anything: it is a label: what it is worth is what the hold of that sum in a sandbox is worth. -/
noncomputable def Try.pinned : Pinned := { name := "ythiaegigndlnpaa", sum := "eae70557af15e1bc6c6cd6e364b33f19122031699fcc48fc44a91760aecc242a", checked := Try.checked }
namespace Rows
def none {H : Type} : Left H := { results := [], args := [] }

/-- 'timesynclaw28.LimiterChecks': WHATEVER THE INPUT: true; the input reads as it did. -/
def limiterChecksSpec : ChangeSpec := { name := "limiterChecks", fn := fun _ => fun
  | [d] => { results := [.lit (.bool true)], args := [d] }
  | _ => none }
def limiterChecksRow : OpenClaim := { program := "ythiaegigndlnpaa", sum := "eae70557af15e1bc6c6cd6e364b33f19122031699fcc48fc44a91760aecc242a", func := "timesync/timesynclaw28.LimiterChecks", spec := "limiterChecks", unfollowed := true, recurses := true, apart := false }
def LimiterChecksSaid : Prop := limiterChecksRow.holds Try.pinned (OpenSpec.ofChange limiterChecksSpec)

/-- ITS FALSE NEIGHBOUR: 'it returns false'. Refute it at one input. -/
def limiterChecksWrong : ChangeSpec := { name := "limiterChecks", fn := fun _ => fun
  | [d] => { results := [.lit (.bool false)], args := [d] }
  | _ => none }
def LimiterChecksWrongFalsely : Prop := limiterChecksRow.holds Try.pinned (OpenSpec.ofChange limiterChecksWrong)

/-- 'timesynclaw28.LimiterAsks': WHATEVER THE INPUT: true; the input reads as it did. -/
def limiterAsksSpec : ChangeSpec := { name := "limiterAsks", fn := fun _ => fun
  | [d1, d2] => { results := [.lit (.bool true)], args := [d1, d2] }
  | _ => none }
def limiterAsksRow : OpenClaim := { program := "ythiaegigndlnpaa", sum := "eae70557af15e1bc6c6cd6e364b33f19122031699fcc48fc44a91760aecc242a", func := "timesync/timesynclaw28.LimiterAsks", spec := "limiterAsks", unfollowed := true, recurses := true, apart := false }
def LimiterAsksSaid : Prop := limiterAsksRow.holds Try.pinned (OpenSpec.ofChange limiterAsksSpec)

/-- ITS FALSE NEIGHBOUR: 'it returns false'. Refute it at one input. -/
def limiterAsksWrong : ChangeSpec := { name := "limiterAsks", fn := fun _ => fun
  | [d1, d2] => { results := [.lit (.bool false)], args := [d1, d2] }
  | _ => none }
def LimiterAsksWrongFalsely : Prop := limiterAsksRow.holds Try.pinned (OpenSpec.ofChange limiterAsksWrong)

/-- 'timesynclaw28.LimiterBounds': WHATEVER THE INPUT: true; the input reads as it did. -/
def limiterBoundsSpec : ChangeSpec := { name := "limiterBounds", fn := fun _ => fun
  | [d1, d2] => { results := [.lit (.bool true)], args := [d1, d2] }
  | _ => none }
def limiterBoundsRow : OpenClaim := { program := "ythiaegigndlnpaa", sum := "eae70557af15e1bc6c6cd6e364b33f19122031699fcc48fc44a91760aecc242a", func := "timesync/timesynclaw28.LimiterBounds", spec := "limiterBounds", unfollowed := true, recurses := true, apart := false }
def LimiterBoundsSaid : Prop := limiterBoundsRow.holds Try.pinned (OpenSpec.ofChange limiterBoundsSpec)

/-- ITS FALSE NEIGHBOUR: 'it returns false'. Refute it at one input. -/
def limiterBoundsWrong : ChangeSpec := { name := "limiterBounds", fn := fun _ => fun
  | [d1, d2] => { results := [.lit (.bool false)], args := [d1, d2] }
  | _ => none }
def LimiterBoundsWrongFalsely : Prop := limiterBoundsRow.holds Try.pinned (OpenSpec.ofChange limiterBoundsWrong)

/-- 'timesynclaw28.LimiterRate': WHATEVER THE INPUT: true; the input reads as it did. -/
def limiterRateSpec : ChangeSpec := { name := "limiterRate", fn := fun _ => fun
  | [d1, d2, d3] => { results := [.lit (.bool true)], args := [d1, d2, d3] }
  | _ => none }
def limiterRateRow : OpenClaim := { program := "ythiaegigndlnpaa", sum := "eae70557af15e1bc6c6cd6e364b33f19122031699fcc48fc44a91760aecc242a", func := "timesync/timesynclaw28.LimiterRate", spec := "limiterRate", unfollowed := true, recurses := true, apart := false }
def LimiterRateSaid : Prop := limiterRateRow.holds Try.pinned (OpenSpec.ofChange limiterRateSpec)

/-- ITS FALSE NEIGHBOUR: 'it returns false'. Refute it at one input. -/
def limiterRateWrong : ChangeSpec := { name := "limiterRate", fn := fun _ => fun
  | [d1, d2, d3] => { results := [.lit (.bool false)], args := [d1, d2, d3] }
  | _ => none }
def LimiterRateWrongFalsely : Prop := limiterRateRow.holds Try.pinned (OpenSpec.ofChange limiterRateWrong)

/-- 'timesynclaw28.LimiterApart': WHATEVER THE INPUT: true; the input reads as it did. -/
def limiterApartSpec : ChangeSpec := { name := "limiterApart", fn := fun _ => fun
  | [d1, d2, d3] => { results := [.lit (.bool true)], args := [d1, d2, d3] }
  | _ => none }
def limiterApartRow : OpenClaim := { program := "ythiaegigndlnpaa", sum := "eae70557af15e1bc6c6cd6e364b33f19122031699fcc48fc44a91760aecc242a", func := "timesync/timesynclaw28.LimiterApart", spec := "limiterApart", unfollowed := true, recurses := true, apart := false }
def LimiterApartSaid : Prop := limiterApartRow.holds Try.pinned (OpenSpec.ofChange limiterApartSpec)

/-- ITS FALSE NEIGHBOUR: 'it returns false'. Refute it at one input. -/
def limiterApartWrong : ChangeSpec := { name := "limiterApart", fn := fun _ => fun
  | [d1, d2, d3] => { results := [.lit (.bool false)], args := [d1, d2, d3] }
  | _ => none }
def LimiterApartWrongFalsely : Prop := limiterApartRow.holds Try.pinned (OpenSpec.ofChange limiterApartWrong)

/-- 'timesynclaw28.LimiterKisses': WHATEVER THE INPUT: true; the input reads as it did. -/
def limiterKissesSpec : ChangeSpec := { name := "limiterKisses", fn := fun _ => fun
  | [d1, d2, d3] => { results := [.lit (.bool true)], args := [d1, d2, d3] }
  | _ => none }
def limiterKissesRow : OpenClaim := { program := "ythiaegigndlnpaa", sum := "eae70557af15e1bc6c6cd6e364b33f19122031699fcc48fc44a91760aecc242a", func := "timesync/timesynclaw28.LimiterKisses", spec := "limiterKisses", unfollowed := true, recurses := true, apart := false }
def LimiterKissesSaid : Prop := limiterKissesRow.holds Try.pinned (OpenSpec.ofChange limiterKissesSpec)

/-- ITS FALSE NEIGHBOUR: 'it returns false'. Refute it at one input. -/
def limiterKissesWrong : ChangeSpec := { name := "limiterKisses", fn := fun _ => fun
  | [d1, d2, d3] => { results := [.lit (.bool false)], args := [d1, d2, d3] }
  | _ => none }
def LimiterKissesWrongFalsely : Prop := limiterKissesRow.holds Try.pinned (OpenSpec.ofChange limiterKissesWrong)

/-- 'timesynclaw28.LimiterNobody': WHATEVER THE INPUT: true; the input reads as it did. -/
def limiterNobodySpec : ChangeSpec := { name := "limiterNobody", fn := fun _ => fun
  | [d1, d2] => { results := [.lit (.bool true)], args := [d1, d2] }
  | _ => none }
def limiterNobodyRow : OpenClaim := { program := "ythiaegigndlnpaa", sum := "eae70557af15e1bc6c6cd6e364b33f19122031699fcc48fc44a91760aecc242a", func := "timesync/timesynclaw28.LimiterNobody", spec := "limiterNobody", unfollowed := true, recurses := true, apart := false }
def LimiterNobodySaid : Prop := limiterNobodyRow.holds Try.pinned (OpenSpec.ofChange limiterNobodySpec)

/-- ITS FALSE NEIGHBOUR: 'it returns false'. Refute it at one input. -/
def limiterNobodyWrong : ChangeSpec := { name := "limiterNobody", fn := fun _ => fun
  | [d1, d2] => { results := [.lit (.bool false)], args := [d1, d2] }
  | _ => none }
def LimiterNobodyWrongFalsely : Prop := limiterNobodyRow.holds Try.pinned (OpenSpec.ofChange limiterNobodyWrong)

/- THE SECOND FORM. 'bulk': how many values and letters a reading holds, each counted each time it is reached (what is shared counts as often as it is met; a slice's spare places count too). A statement '..UptoSaid' is the law's where the arguments, and the package variables that the reading takes, are together of bulk at most 1048576: NARROWER than '..Said'. Prove '..Said' where nothing that the law and all that it calls make is longer than what came in: it says more and counts as full. Else prove '..UptoSaid'. A law counts once. -/
mutual
def uptoBulk {H : Type} : DataW H → Nat
  | .lit (.string bytes) => bytes.length + 1
  | .lit _ => 1
  | .nil => 1
  | .ptr d => uptoBulk d + 1
  | .slice elems spare => uptoBulkAll elems + uptoBulkAll spare + 1
  | .agg parts => uptoBulkAll parts + 1
  | .iface _ d => uptoBulk d + 1
  | .map entries => uptoBulkEntries entries + 1
  | .held _ => 1
def uptoBulkAll {H : Type} : List (DataW H) → Nat
  | [] => 0
  | d :: r => uptoBulk d + uptoBulkAll r
def uptoBulkEntries {H : Type} : List (Lit × DataW H) → Nat
  | [] => 0
  | x :: r => uptoBulkEntry x + uptoBulkEntries r
def uptoBulkEntry {H : Type} : Lit × DataW H → Nat
  | (.string bytes, d) => bytes.length + uptoBulk d + 1
  | (_, d) => uptoBulk d + 1
 end
def uptoSmall : (H : Type) → List (DataW H) → Bool := fun _ ds => decide (uptoBulkAll ds ≤ 1048576)
def OpenSpec.upto (s : _root_.Go.ChangeSpec) : _root_.Go.OpenSpec := { _root_.Go.OpenSpec.ofChange s with cond := some uptoSmall }

/-- 'timesynclaw28.LimiterChecks', WHERE WHAT IT READS IS OF BULK AT MOST 1048576: true; the input reads as it did. -/
def limiterChecksUptoRow : OpenClaim := { program := "ythiaegigndlnpaa", sum := "eae70557af15e1bc6c6cd6e364b33f19122031699fcc48fc44a91760aecc242a", func := "timesync/timesynclaw28.LimiterChecks", spec := "limiterChecks", unfollowed := true, recurses := true, apart := false, narrowed := true }
def LimiterChecksUptoSaid : Prop := limiterChecksUptoRow.holds Try.pinned (OpenSpec.upto limiterChecksSpec)

/-- 'timesynclaw28.LimiterAsks', WHERE WHAT IT READS IS OF BULK AT MOST 1048576: true; the input reads as it did. -/
def limiterAsksUptoRow : OpenClaim := { program := "ythiaegigndlnpaa", sum := "eae70557af15e1bc6c6cd6e364b33f19122031699fcc48fc44a91760aecc242a", func := "timesync/timesynclaw28.LimiterAsks", spec := "limiterAsks", unfollowed := true, recurses := true, apart := false, narrowed := true }
def LimiterAsksUptoSaid : Prop := limiterAsksUptoRow.holds Try.pinned (OpenSpec.upto limiterAsksSpec)

/-- 'timesynclaw28.LimiterBounds', WHERE WHAT IT READS IS OF BULK AT MOST 1048576: true; the input reads as it did. -/
def limiterBoundsUptoRow : OpenClaim := { program := "ythiaegigndlnpaa", sum := "eae70557af15e1bc6c6cd6e364b33f19122031699fcc48fc44a91760aecc242a", func := "timesync/timesynclaw28.LimiterBounds", spec := "limiterBounds", unfollowed := true, recurses := true, apart := false, narrowed := true }
def LimiterBoundsUptoSaid : Prop := limiterBoundsUptoRow.holds Try.pinned (OpenSpec.upto limiterBoundsSpec)

/-- 'timesynclaw28.LimiterRate', WHERE WHAT IT READS IS OF BULK AT MOST 1048576: true; the input reads as it did. -/
def limiterRateUptoRow : OpenClaim := { program := "ythiaegigndlnpaa", sum := "eae70557af15e1bc6c6cd6e364b33f19122031699fcc48fc44a91760aecc242a", func := "timesync/timesynclaw28.LimiterRate", spec := "limiterRate", unfollowed := true, recurses := true, apart := false, narrowed := true }
def LimiterRateUptoSaid : Prop := limiterRateUptoRow.holds Try.pinned (OpenSpec.upto limiterRateSpec)

/-- 'timesynclaw28.LimiterApart', WHERE WHAT IT READS IS OF BULK AT MOST 1048576: true; the input reads as it did. -/
def limiterApartUptoRow : OpenClaim := { program := "ythiaegigndlnpaa", sum := "eae70557af15e1bc6c6cd6e364b33f19122031699fcc48fc44a91760aecc242a", func := "timesync/timesynclaw28.LimiterApart", spec := "limiterApart", unfollowed := true, recurses := true, apart := false, narrowed := true }
def LimiterApartUptoSaid : Prop := limiterApartUptoRow.holds Try.pinned (OpenSpec.upto limiterApartSpec)

/-- 'timesynclaw28.LimiterKisses', WHERE WHAT IT READS IS OF BULK AT MOST 1048576: true; the input reads as it did. -/
def limiterKissesUptoRow : OpenClaim := { program := "ythiaegigndlnpaa", sum := "eae70557af15e1bc6c6cd6e364b33f19122031699fcc48fc44a91760aecc242a", func := "timesync/timesynclaw28.LimiterKisses", spec := "limiterKisses", unfollowed := true, recurses := true, apart := false, narrowed := true }
def LimiterKissesUptoSaid : Prop := limiterKissesUptoRow.holds Try.pinned (OpenSpec.upto limiterKissesSpec)

/-- 'timesynclaw28.LimiterNobody', WHERE WHAT IT READS IS OF BULK AT MOST 1048576: true; the input reads as it did. -/
def limiterNobodyUptoRow : OpenClaim := { program := "ythiaegigndlnpaa", sum := "eae70557af15e1bc6c6cd6e364b33f19122031699fcc48fc44a91760aecc242a", func := "timesync/timesynclaw28.LimiterNobody", spec := "limiterNobody", unfollowed := true, recurses := true, apart := false, narrowed := true }
def LimiterNobodyUptoSaid : Prop := limiterNobodyUptoRow.holds Try.pinned (OpenSpec.upto limiterNobodySpec)

end Rows
end Go.Proofs.Ythiaegigndlnpaa
