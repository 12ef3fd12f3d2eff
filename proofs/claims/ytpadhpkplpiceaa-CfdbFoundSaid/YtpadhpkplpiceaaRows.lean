/-
  No cell of these rows narrows 'for every input' (looked for: loops, veiled, ifaces, maps, wideKeys, modest, calm, conditions, laid).
  DERIVED. THE GIVEN ROWS OF THIS SEAT. 5 by the template 'for every input the law returns true; each argument reads behind the call as it read before'; 0 by the template 'total and deterministic' (their statements: YtpadhpkplpiceaaTotals.lean).
  GIVEN WITH THE SEED: the statements are not yours to turn. If you find one false, say at which input.
  Laid BY PROGRAM, IN A SANDBOX (cutbox-rows.mjs): the forced cells as the released guide's own fill.sh prints them over the translation 3b781efa55c727f8… (all of the seat's roots in one cut). By AI agents, Wed Nov 11 2026. No macro, syntax, notation, axiom, sorry.
-/
import Derived.Test.YtpadhpkplpiceaaChecked
import GoSem.Claim
import GoSem.ClaimJoined
import GoSem.ClaimMapViews
import Derived.JoinedTies
import Derived.KernelRfl
namespace Go.Proofs.Ytpadhpkplpiceaa
/- THE CELL 'sum', in the pinned program and in every row, IS THE sha256 OF THE DUMP (.gsa) THAT YtpadhpkplpiceaaProg.lean LOADS. Nothing in Lean hashes anything: it is a label: what it is worth is what the hold of that sum in a sandbox is worth. -/
noncomputable def Try.pinned : Pinned := { name := "ytpadhpkplpiceaa", sum := "3b781efa55c727f844ae8524cf7c078def5a015a3addfb6ac80bfc513330bc46", checked := Try.checked }
namespace Rows
def none {H : Type} : Left H := { results := [], args := [] }

/-- 'pontagelaw08.CfdbFull': WHATEVER THE INPUT: true; the input reads as it did. -/
def cfdbFullSpec : ChangeSpec := { name := "cfdbFull", fn := fun _ => fun
  | [d1, d2] => { results := [.lit (.bool true)], args := [d1, d2] }
  | _ => none }
def cfdbFullRow : OpenClaim := { program := "ytpadhpkplpiceaa", sum := "3b781efa55c727f844ae8524cf7c078def5a015a3addfb6ac80bfc513330bc46", func := "pontage/pontagelaw08.CfdbFull", spec := "cfdbFull", plainKeys := false, apart := false }
def CfdbFullSaid : Prop := cfdbFullRow.holds Try.pinned (OpenSpec.ofChange cfdbFullSpec)

/-- ITS FALSE NEIGHBOUR: 'it returns false'. Refute it at one input. -/
def cfdbFullWrong : ChangeSpec := { name := "cfdbFull", fn := fun _ => fun
  | [d1, d2] => { results := [.lit (.bool false)], args := [d1, d2] }
  | _ => none }
def CfdbFullWrongFalsely : Prop := cfdbFullRow.holds Try.pinned (OpenSpec.ofChange cfdbFullWrong)

/-- 'pontagelaw08.CfdbFound': WHATEVER THE INPUT: true; the input reads as it did. -/
def cfdbFoundSpec : ChangeSpec := { name := "cfdbFound", fn := fun _ => fun
  | [d] => { results := [.lit (.bool true)], args := [d] }
  | _ => none }
def cfdbFoundRow : OpenClaim := { program := "ytpadhpkplpiceaa", sum := "3b781efa55c727f844ae8524cf7c078def5a015a3addfb6ac80bfc513330bc46", func := "pontage/pontagelaw08.CfdbFound", spec := "cfdbFound", unfollowed := true, recurses := true, plainKeys := false, apart := false }
def CfdbFoundSaid : Prop := cfdbFoundRow.holds Try.pinned (OpenSpec.ofChange cfdbFoundSpec)

/-- ITS FALSE NEIGHBOUR: 'it returns false'. Refute it at one input. -/
def cfdbFoundWrong : ChangeSpec := { name := "cfdbFound", fn := fun _ => fun
  | [d] => { results := [.lit (.bool false)], args := [d] }
  | _ => none }
def CfdbFoundWrongFalsely : Prop := cfdbFoundRow.holds Try.pinned (OpenSpec.ofChange cfdbFoundWrong)

/-- 'pontagelaw08.CfdbApart': WHATEVER THE INPUT: true; the input reads as it did. -/
def cfdbApartSpec : ChangeSpec := { name := "cfdbApart", fn := fun _ => fun
  | [d1, d2] => { results := [.lit (.bool true)], args := [d1, d2] }
  | _ => none }
def cfdbApartRow : OpenClaim := { program := "ytpadhpkplpiceaa", sum := "3b781efa55c727f844ae8524cf7c078def5a015a3addfb6ac80bfc513330bc46", func := "pontage/pontagelaw08.CfdbApart", spec := "cfdbApart", unfollowed := true, recurses := true, plainKeys := false, apart := false }
def CfdbApartSaid : Prop := cfdbApartRow.holds Try.pinned (OpenSpec.ofChange cfdbApartSpec)

/-- ITS FALSE NEIGHBOUR: 'it returns false'. Refute it at one input. -/
def cfdbApartWrong : ChangeSpec := { name := "cfdbApart", fn := fun _ => fun
  | [d1, d2] => { results := [.lit (.bool false)], args := [d1, d2] }
  | _ => none }
def CfdbApartWrongFalsely : Prop := cfdbApartRow.holds Try.pinned (OpenSpec.ofChange cfdbApartWrong)

/-- 'pontagelaw08.CfdbRuns': WHATEVER THE INPUT: true; the input reads as it did. -/
def cfdbRunsSpec : ChangeSpec := { name := "cfdbRuns", fn := fun _ => fun
  | [d1, d2, d3] => { results := [.lit (.bool true)], args := [d1, d2, d3] }
  | _ => none }
def cfdbRunsRow : OpenClaim := { program := "ytpadhpkplpiceaa", sum := "3b781efa55c727f844ae8524cf7c078def5a015a3addfb6ac80bfc513330bc46", func := "pontage/pontagelaw08.CfdbRuns", spec := "cfdbRuns", unfollowed := true, recurses := true, plainKeys := false, apart := false }
def CfdbRunsSaid : Prop := cfdbRunsRow.holds Try.pinned (OpenSpec.ofChange cfdbRunsSpec)

/-- ITS FALSE NEIGHBOUR: 'it returns false'. Refute it at one input. -/
def cfdbRunsWrong : ChangeSpec := { name := "cfdbRuns", fn := fun _ => fun
  | [d1, d2, d3] => { results := [.lit (.bool false)], args := [d1, d2, d3] }
  | _ => none }
def CfdbRunsWrongFalsely : Prop := cfdbRunsRow.holds Try.pinned (OpenSpec.ofChange cfdbRunsWrong)

/-- 'pontagelaw08.CfdbNobody': WHATEVER THE INPUT: true; the input reads as it did. -/
def cfdbNobodySpec : ChangeSpec := { name := "cfdbNobody", fn := fun _ => fun
  | [d] => { results := [.lit (.bool true)], args := [d] }
  | _ => none }
def cfdbNobodyRow : OpenClaim := { program := "ytpadhpkplpiceaa", sum := "3b781efa55c727f844ae8524cf7c078def5a015a3addfb6ac80bfc513330bc46", func := "pontage/pontagelaw08.CfdbNobody", spec := "cfdbNobody", unfollowed := true, recurses := true, plainKeys := false, apart := false }
def CfdbNobodySaid : Prop := cfdbNobodyRow.holds Try.pinned (OpenSpec.ofChange cfdbNobodySpec)

/-- ITS FALSE NEIGHBOUR: 'it returns false'. Refute it at one input. -/
def cfdbNobodyWrong : ChangeSpec := { name := "cfdbNobody", fn := fun _ => fun
  | [d] => { results := [.lit (.bool false)], args := [d] }
  | _ => none }
def CfdbNobodyWrongFalsely : Prop := cfdbNobodyRow.holds Try.pinned (OpenSpec.ofChange cfdbNobodyWrong)

/- THE SECOND FORM. 'bulk': how many values and letters a reading holds, each counted each time it is reached (what is shared counts as often as it is met; a slice's spare places count too). A statement '..UptoSaid' is the law's where the arguments, and the package variables that the reading takes, are together of bulk at most 1048576: NARROWER than '..Said'. Prove '..Said' where nothing that the law and all that it calls make is longer than what came in: it says more and counts as full. Else prove '..UptoSaid'. A law counts once. -/
mutual
def uptoBulk {H : Type} : DataW H → Nat
  | .lit (.string bytes) => bytes.length + 1
  | .lit _ => 1
  | .nil => 1
  | .ptr d => uptoBulk d + 1
  | .slice elems spare => uptoBulkAll elems + uptoBulkAll spare + 1
  | .agg parts => uptoBulkAll parts + 1
  | .iface _ d => uptoBulk d + 1
  | .map entries => uptoBulkEntries entries + 1
  | .held _ => 1
def uptoBulkAll {H : Type} : List (DataW H) → Nat
  | [] => 0
  | d :: r => uptoBulk d + uptoBulkAll r
def uptoBulkEntries {H : Type} : List (Lit × DataW H) → Nat
  | [] => 0
  | x :: r => uptoBulkEntry x + uptoBulkEntries r
def uptoBulkEntry {H : Type} : Lit × DataW H → Nat
  | (.string bytes, d) => bytes.length + uptoBulk d + 1
  | (_, d) => uptoBulk d + 1
 end
def uptoSmall : (H : Type) → List (DataW H) → Bool := fun _ ds => decide (uptoBulkAll ds ≤ 1048576)
def OpenSpec.upto (s : _root_.Go.ChangeSpec) : _root_.Go.OpenSpec := { _root_.Go.OpenSpec.ofChange s with cond := some uptoSmall }

/-- 'pontagelaw08.CfdbFull', WHERE WHAT IT READS IS OF BULK AT MOST 1048576: true; the input reads as it did. -/
def cfdbFullUptoRow : OpenClaim := { program := "ytpadhpkplpiceaa", sum := "3b781efa55c727f844ae8524cf7c078def5a015a3addfb6ac80bfc513330bc46", func := "pontage/pontagelaw08.CfdbFull", spec := "cfdbFull", plainKeys := false, apart := false, narrowed := true }
def CfdbFullUptoSaid : Prop := cfdbFullUptoRow.holds Try.pinned (OpenSpec.upto cfdbFullSpec)

/-- 'pontagelaw08.CfdbFound', WHERE WHAT IT READS IS OF BULK AT MOST 1048576: true; the input reads as it did. -/
def cfdbFoundUptoRow : OpenClaim := { program := "ytpadhpkplpiceaa", sum := "3b781efa55c727f844ae8524cf7c078def5a015a3addfb6ac80bfc513330bc46", func := "pontage/pontagelaw08.CfdbFound", spec := "cfdbFound", unfollowed := true, recurses := true, plainKeys := false, apart := false, narrowed := true }
def CfdbFoundUptoSaid : Prop := cfdbFoundUptoRow.holds Try.pinned (OpenSpec.upto cfdbFoundSpec)

/-- 'pontagelaw08.CfdbApart', WHERE WHAT IT READS IS OF BULK AT MOST 1048576: true; the input reads as it did. -/
def cfdbApartUptoRow : OpenClaim := { program := "ytpadhpkplpiceaa", sum := "3b781efa55c727f844ae8524cf7c078def5a015a3addfb6ac80bfc513330bc46", func := "pontage/pontagelaw08.CfdbApart", spec := "cfdbApart", unfollowed := true, recurses := true, plainKeys := false, apart := false, narrowed := true }
def CfdbApartUptoSaid : Prop := cfdbApartUptoRow.holds Try.pinned (OpenSpec.upto cfdbApartSpec)

/-- 'pontagelaw08.CfdbRuns', WHERE WHAT IT READS IS OF BULK AT MOST 1048576: true; the input reads as it did. -/
def cfdbRunsUptoRow : OpenClaim := { program := "ytpadhpkplpiceaa", sum := "3b781efa55c727f844ae8524cf7c078def5a015a3addfb6ac80bfc513330bc46", func := "pontage/pontagelaw08.CfdbRuns", spec := "cfdbRuns", unfollowed := true, recurses := true, plainKeys := false, apart := false, narrowed := true }
def CfdbRunsUptoSaid : Prop := cfdbRunsUptoRow.holds Try.pinned (OpenSpec.upto cfdbRunsSpec)

/-- 'pontagelaw08.CfdbNobody', WHERE WHAT IT READS IS OF BULK AT MOST 1048576: true; the input reads as it did. -/
def cfdbNobodyUptoRow : OpenClaim := { program := "ytpadhpkplpiceaa", sum := "3b781efa55c727f844ae8524cf7c078def5a015a3addfb6ac80bfc513330bc46", func := "pontage/pontagelaw08.CfdbNobody", spec := "cfdbNobody", unfollowed := true, recurses := true, plainKeys := false, apart := false, narrowed := true }
def CfdbNobodyUptoSaid : Prop := cfdbNobodyUptoRow.holds Try.pinned (OpenSpec.upto cfdbNobodySpec)

end Rows
end Go.Proofs.Ytpadhpkplpiceaa
