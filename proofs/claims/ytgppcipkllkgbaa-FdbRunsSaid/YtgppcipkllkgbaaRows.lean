/-
  No cell of these rows narrows 'for every input' (looked for: loops, veiled, ifaces, maps, wideKeys, modest, calm, conditions, laid).
  DERIVED. THE GIVEN ROWS OF THIS SEAT. 5 by the template 'for every input the law returns true; each argument reads behind the call as it read before'; 0 by the template 'total and deterministic' (their statements: YtgppcipkllkgbaaTotals.lean).
  GIVEN WITH THE SEED: the statements are not yours to turn. If you find one false, say at which input.
  Laid BY PROGRAM, IN A SANDBOX (cutbox-rows.mjs): the forced cells as the released guide's own fill.sh prints them over the translation 88302eede533c758… (all of the seat's roots in one cut). By AI agents, Wed Nov 11 2026. No macro, syntax, notation, axiom, sorry.
-/
import Derived.Test.YtgppcipkllkgbaaChecked
import GoSem.Claim
import GoSem.ClaimJoined
import GoSem.ClaimMapViews
import Derived.JoinedTies
import Derived.KernelRfl
namespace Go.Proofs.Ytgppcipkllkgbaa
/- THE CELL 'sum', in the pinned program and in every row, IS THE sha256 OF THE DUMP (.gsa) THAT YtgppcipkllkgbaaProg.lean LOADS. Nothing in Lean hashes anything: it is a label: what it is worth is what the hold of that sum in a sandbox is worth. -/
noncomputable def Try.pinned : Pinned := { name := "ytgppcipkllkgbaa", sum := "88302eede533c75855c32978cac24fa23d168f4b7dbbcc86a685c75e06e2cdd7", checked := Try.checked }
namespace Rows
def none {H : Type} : Left H := { results := [], args := [] }

/-- 'pontagelaw07.FdbLearned': WHATEVER THE INPUT: true; the input reads as it did. -/
def fdbLearnedSpec : ChangeSpec := { name := "fdbLearned", fn := fun _ => fun
  | [d1, d2, d3, d4, d5, d6] => { results := [.lit (.bool true)], args := [d1, d2, d3, d4, d5, d6] }
  | _ => none }
def fdbLearnedRow : OpenClaim := { program := "ytgppcipkllkgbaa", sum := "88302eede533c75855c32978cac24fa23d168f4b7dbbcc86a685c75e06e2cdd7", func := "pontage/pontagelaw07.FdbLearned", spec := "fdbLearned", unfollowed := true, recurses := true, plainKeys := false, apart := false }
def FdbLearnedSaid : Prop := fdbLearnedRow.holds Try.pinned (OpenSpec.ofChange fdbLearnedSpec)

/-- ITS FALSE NEIGHBOUR: 'it returns false'. Refute it at one input. -/
def fdbLearnedWrong : ChangeSpec := { name := "fdbLearned", fn := fun _ => fun
  | [d1, d2, d3, d4, d5, d6] => { results := [.lit (.bool false)], args := [d1, d2, d3, d4, d5, d6] }
  | _ => none }
def FdbLearnedWrongFalsely : Prop := fdbLearnedRow.holds Try.pinned (OpenSpec.ofChange fdbLearnedWrong)

/-- 'pontagelaw07.FdbBounded': WHATEVER THE INPUT: true; the input reads as it did. -/
def fdbBoundedSpec : ChangeSpec := { name := "fdbBounded", fn := fun _ => fun
  | [d1, d2] => { results := [.lit (.bool true)], args := [d1, d2] }
  | _ => none }
def fdbBoundedRow : OpenClaim := { program := "ytgppcipkllkgbaa", sum := "88302eede533c75855c32978cac24fa23d168f4b7dbbcc86a685c75e06e2cdd7", func := "pontage/pontagelaw07.FdbBounded", spec := "fdbBounded", unfollowed := true, recurses := true, plainKeys := false, apart := false }
def FdbBoundedSaid : Prop := fdbBoundedRow.holds Try.pinned (OpenSpec.ofChange fdbBoundedSpec)

/-- ITS FALSE NEIGHBOUR: 'it returns false'. Refute it at one input. -/
def fdbBoundedWrong : ChangeSpec := { name := "fdbBounded", fn := fun _ => fun
  | [d1, d2] => { results := [.lit (.bool false)], args := [d1, d2] }
  | _ => none }
def FdbBoundedWrongFalsely : Prop := fdbBoundedRow.holds Try.pinned (OpenSpec.ofChange fdbBoundedWrong)

/-- 'pontagelaw07.FdbNothing': WHATEVER THE INPUT: true; the input reads as it did. -/
def fdbNothingSpec : ChangeSpec := { name := "fdbNothing", fn := fun _ => fun
  | [d1, d2] => { results := [.lit (.bool true)], args := [d1, d2] }
  | _ => none }
def fdbNothingRow : OpenClaim := { program := "ytgppcipkllkgbaa", sum := "88302eede533c75855c32978cac24fa23d168f4b7dbbcc86a685c75e06e2cdd7", func := "pontage/pontagelaw07.FdbNothing", spec := "fdbNothing", unfollowed := true, recurses := true, plainKeys := false, apart := false }
def FdbNothingSaid : Prop := fdbNothingRow.holds Try.pinned (OpenSpec.ofChange fdbNothingSpec)

/-- ITS FALSE NEIGHBOUR: 'it returns false'. Refute it at one input. -/
def fdbNothingWrong : ChangeSpec := { name := "fdbNothing", fn := fun _ => fun
  | [d1, d2] => { results := [.lit (.bool false)], args := [d1, d2] }
  | _ => none }
def FdbNothingWrongFalsely : Prop := fdbNothingRow.holds Try.pinned (OpenSpec.ofChange fdbNothingWrong)

/-- 'pontagelaw07.FdbRuns': WHATEVER THE INPUT: true; the input reads as it did. -/
def fdbRunsSpec : ChangeSpec := { name := "fdbRuns", fn := fun _ => fun
  | [d1, d2, d3, d4] => { results := [.lit (.bool true)], args := [d1, d2, d3, d4] }
  | _ => none }
def fdbRunsRow : OpenClaim := { program := "ytgppcipkllkgbaa", sum := "88302eede533c75855c32978cac24fa23d168f4b7dbbcc86a685c75e06e2cdd7", func := "pontage/pontagelaw07.FdbRuns", spec := "fdbRuns", unfollowed := true, recurses := true, plainKeys := false, apart := false }
def FdbRunsSaid : Prop := fdbRunsRow.holds Try.pinned (OpenSpec.ofChange fdbRunsSpec)

/-- ITS FALSE NEIGHBOUR: 'it returns false'. Refute it at one input. -/
def fdbRunsWrong : ChangeSpec := { name := "fdbRuns", fn := fun _ => fun
  | [d1, d2, d3, d4] => { results := [.lit (.bool false)], args := [d1, d2, d3, d4] }
  | _ => none }
def FdbRunsWrongFalsely : Prop := fdbRunsRow.holds Try.pinned (OpenSpec.ofChange fdbRunsWrong)

/-- 'pontagelaw07.FdbNobody': WHATEVER THE INPUT: true; the input reads as it did. -/
def fdbNobodySpec : ChangeSpec := { name := "fdbNobody", fn := fun _ => fun
  | [d] => { results := [.lit (.bool true)], args := [d] }
  | _ => none }
def fdbNobodyRow : OpenClaim := { program := "ytgppcipkllkgbaa", sum := "88302eede533c75855c32978cac24fa23d168f4b7dbbcc86a685c75e06e2cdd7", func := "pontage/pontagelaw07.FdbNobody", spec := "fdbNobody", unfollowed := true, recurses := true, plainKeys := false, apart := false }
def FdbNobodySaid : Prop := fdbNobodyRow.holds Try.pinned (OpenSpec.ofChange fdbNobodySpec)

/-- ITS FALSE NEIGHBOUR: 'it returns false'. Refute it at one input. -/
def fdbNobodyWrong : ChangeSpec := { name := "fdbNobody", fn := fun _ => fun
  | [d] => { results := [.lit (.bool false)], args := [d] }
  | _ => none }
def FdbNobodyWrongFalsely : Prop := fdbNobodyRow.holds Try.pinned (OpenSpec.ofChange fdbNobodyWrong)

/- THE SECOND FORM. 'bulk': how many values and letters a reading holds, each counted each time it is reached (what is shared counts as often as it is met; a slice's spare places count too). A statement '..UptoSaid' is the law's where the arguments, and the package variables that the reading takes, are together of bulk at most 1048576: NARROWER than '..Said'. Prove '..Said' where nothing that the law and all that it calls make is longer than what came in: it says more and counts as full. Else prove '..UptoSaid'. A law counts once. -/
mutual
def uptoBulk {H : Type} : DataW H → Nat
  | .lit (.string bytes) => bytes.length + 1
  | .lit _ => 1
  | .nil => 1
  | .ptr d => uptoBulk d + 1
  | .slice elems spare => uptoBulkAll elems + uptoBulkAll spare + 1
  | .agg parts => uptoBulkAll parts + 1
  | .iface _ d => uptoBulk d + 1
  | .map entries => uptoBulkEntries entries + 1
  | .held _ => 1
def uptoBulkAll {H : Type} : List (DataW H) → Nat
  | [] => 0
  | d :: r => uptoBulk d + uptoBulkAll r
def uptoBulkEntries {H : Type} : List (Lit × DataW H) → Nat
  | [] => 0
  | x :: r => uptoBulkEntry x + uptoBulkEntries r
def uptoBulkEntry {H : Type} : Lit × DataW H → Nat
  | (.string bytes, d) => bytes.length + uptoBulk d + 1
  | (_, d) => uptoBulk d + 1
 end
def uptoSmall : (H : Type) → List (DataW H) → Bool := fun _ ds => decide (uptoBulkAll ds ≤ 1048576)
def OpenSpec.upto (s : _root_.Go.ChangeSpec) : _root_.Go.OpenSpec := { _root_.Go.OpenSpec.ofChange s with cond := some uptoSmall }

/-- 'pontagelaw07.FdbLearned', WHERE WHAT IT READS IS OF BULK AT MOST 1048576: true; the input reads as it did. -/
def fdbLearnedUptoRow : OpenClaim := { program := "ytgppcipkllkgbaa", sum := "88302eede533c75855c32978cac24fa23d168f4b7dbbcc86a685c75e06e2cdd7", func := "pontage/pontagelaw07.FdbLearned", spec := "fdbLearned", unfollowed := true, recurses := true, plainKeys := false, apart := false, narrowed := true }
def FdbLearnedUptoSaid : Prop := fdbLearnedUptoRow.holds Try.pinned (OpenSpec.upto fdbLearnedSpec)

/-- 'pontagelaw07.FdbBounded', WHERE WHAT IT READS IS OF BULK AT MOST 1048576: true; the input reads as it did. -/
def fdbBoundedUptoRow : OpenClaim := { program := "ytgppcipkllkgbaa", sum := "88302eede533c75855c32978cac24fa23d168f4b7dbbcc86a685c75e06e2cdd7", func := "pontage/pontagelaw07.FdbBounded", spec := "fdbBounded", unfollowed := true, recurses := true, plainKeys := false, apart := false, narrowed := true }
def FdbBoundedUptoSaid : Prop := fdbBoundedUptoRow.holds Try.pinned (OpenSpec.upto fdbBoundedSpec)

/-- 'pontagelaw07.FdbNothing', WHERE WHAT IT READS IS OF BULK AT MOST 1048576: true; the input reads as it did. -/
def fdbNothingUptoRow : OpenClaim := { program := "ytgppcipkllkgbaa", sum := "88302eede533c75855c32978cac24fa23d168f4b7dbbcc86a685c75e06e2cdd7", func := "pontage/pontagelaw07.FdbNothing", spec := "fdbNothing", unfollowed := true, recurses := true, plainKeys := false, apart := false, narrowed := true }
def FdbNothingUptoSaid : Prop := fdbNothingUptoRow.holds Try.pinned (OpenSpec.upto fdbNothingSpec)

/-- 'pontagelaw07.FdbRuns', WHERE WHAT IT READS IS OF BULK AT MOST 1048576: true; the input reads as it did. -/
def fdbRunsUptoRow : OpenClaim := { program := "ytgppcipkllkgbaa", sum := "88302eede533c75855c32978cac24fa23d168f4b7dbbcc86a685c75e06e2cdd7", func := "pontage/pontagelaw07.FdbRuns", spec := "fdbRuns", unfollowed := true, recurses := true, plainKeys := false, apart := false, narrowed := true }
def FdbRunsUptoSaid : Prop := fdbRunsUptoRow.holds Try.pinned (OpenSpec.upto fdbRunsSpec)

/-- 'pontagelaw07.FdbNobody', WHERE WHAT IT READS IS OF BULK AT MOST 1048576: true; the input reads as it did. -/
def fdbNobodyUptoRow : OpenClaim := { program := "ytgppcipkllkgbaa", sum := "88302eede533c75855c32978cac24fa23d168f4b7dbbcc86a685c75e06e2cdd7", func := "pontage/pontagelaw07.FdbNobody", spec := "fdbNobody", unfollowed := true, recurses := true, plainKeys := false, apart := false, narrowed := true }
def FdbNobodyUptoSaid : Prop := fdbNobodyUptoRow.holds Try.pinned (OpenSpec.upto fdbNobodySpec)

end Rows
end Go.Proofs.Ytgppcipkllkgbaa
