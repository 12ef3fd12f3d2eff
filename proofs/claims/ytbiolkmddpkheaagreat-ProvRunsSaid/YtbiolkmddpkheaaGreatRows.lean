/-
  No cell of these rows narrows 'for every input' (looked for: loops, veiled, ifaces, maps, wideKeys, modest, calm, conditions, laid).
  DERIVED. THE GIVEN ROWS OF THIS SEAT. 7 by the template 'for every input the law returns true; each argument reads behind the call as it read before'; 0 by the template 'total and deterministic' (their statements: YtbiolkmddpkheaaGreatTotals.lean).
  GIVEN WITH THE SEED: the statements are not yours to turn. If you find one false, say at which input.
  Laid BY PROGRAM, IN A SANDBOX (cutbox-rows.mjs): the forced cells as the released guide's own fill.sh prints them over the translation 7c8918aa3c3c669a… (all of the seat's roots in one cut). By AI agents, Wed Nov 11 2026. No macro, syntax, notation, axiom, sorry.
-/
import Derived.Test.YtbiolkmddpkheaaGreatChecked
import GoSem.Claim
import GoSem.ClaimJoined
import GoSem.ClaimMapViews
import Derived.JoinedTies
import Derived.KernelRfl
namespace Go.Proofs.YtbiolkmddpkheaaGreat
/- THE CELL 'sum', in the pinned program and in every row, IS THE sha256 OF THE DUMP (.gsa) THAT YtbiolkmddpkheaaGreatProg.lean LOADS. Nothing in Lean hashes anything: it is a label: what it is worth is what the hold of that sum in a sandbox is worth. -/
noncomputable def Tryz.pinned : Pinned := { name := "ytbiolkmddpkheaagreat", sum := "7c8918aa3c3c669a2f83c1be42978b973f26c69c79f58e075fa597df2e697ade", checked := Tryz.checked }
namespace Rows
def none {H : Type} : Left H := { results := [], args := [] }

/-- 'pontagelaw18.ProvDoes': WHATEVER THE INPUT: true; the input reads as it did. -/
def provDoesSpec : ChangeSpec := { name := "provDoes", fn := fun _ => fun
  | [d1, d2] => { results := [.lit (.bool true)], args := [d1, d2] }
  | _ => none }
def provDoesRow : OpenClaim := { program := "ytbiolkmddpkheaagreat", sum := "7c8918aa3c3c669a2f83c1be42978b973f26c69c79f58e075fa597df2e697ade", func := "pontage/pontagelaw18.ProvDoes", spec := "provDoes", inPlace := ["slices.overlaps[pontage/api.Map]", "slices.overlaps[pontage/api.Carry]", "slices.overlaps[pontage/api.Member]"], unfollowed := true, recurses := true, apart := false }
def ProvDoesSaid : Prop := provDoesRow.holds Tryz.pinned (OpenSpec.ofChange provDoesSpec)

/-- ITS FALSE NEIGHBOUR: 'it returns false'. Refute it at one input. -/
def provDoesWrong : ChangeSpec := { name := "provDoes", fn := fun _ => fun
  | [d1, d2] => { results := [.lit (.bool false)], args := [d1, d2] }
  | _ => none }
def ProvDoesWrongFalsely : Prop := provDoesRow.holds Tryz.pinned (OpenSpec.ofChange provDoesWrong)

/-- 'pontagelaw18.ProvRuns': WHATEVER THE INPUT: true; the input reads as it did. -/
def provRunsSpec : ChangeSpec := { name := "provRuns", fn := fun _ => fun
  | [d1, d2, d3] => { results := [.lit (.bool true)], args := [d1, d2, d3] }
  | _ => none }
def provRunsRow : OpenClaim := { program := "ytbiolkmddpkheaagreat", sum := "7c8918aa3c3c669a2f83c1be42978b973f26c69c79f58e075fa597df2e697ade", func := "pontage/pontagelaw18.ProvRuns", spec := "provRuns", inPlace := ["slices.overlaps[pontage/api.Map]", "slices.overlaps[pontage/api.Carry]", "slices.overlaps[pontage/api.Member]"], unfollowed := true, recurses := true, apart := false }
def ProvRunsSaid : Prop := provRunsRow.holds Tryz.pinned (OpenSpec.ofChange provRunsSpec)

/-- ITS FALSE NEIGHBOUR: 'it returns false'. Refute it at one input. -/
def provRunsWrong : ChangeSpec := { name := "provRuns", fn := fun _ => fun
  | [d1, d2, d3] => { results := [.lit (.bool false)], args := [d1, d2, d3] }
  | _ => none }
def ProvRunsWrongFalsely : Prop := provRunsRow.holds Tryz.pinned (OpenSpec.ofChange provRunsWrong)

/-- 'pontagelaw18.ProvUndone': WHATEVER THE INPUT: true; the input reads as it did. -/
def provUndoneSpec : ChangeSpec := { name := "provUndone", fn := fun _ => fun
  | [d1, d2, d3, d4, d5, d6] => { results := [.lit (.bool true)], args := [d1, d2, d3, d4, d5, d6] }
  | _ => none }
def provUndoneRow : OpenClaim := { program := "ytbiolkmddpkheaagreat", sum := "7c8918aa3c3c669a2f83c1be42978b973f26c69c79f58e075fa597df2e697ade", func := "pontage/pontagelaw18.ProvUndone", spec := "provUndone", inPlace := ["slices.overlaps[pontage/api.Map]", "slices.overlaps[pontage/api.Carry]", "slices.overlaps[pontage/api.Member]"], unfollowed := true, recurses := true, apart := false }
def ProvUndoneSaid : Prop := provUndoneRow.holds Tryz.pinned (OpenSpec.ofChange provUndoneSpec)

/-- ITS FALSE NEIGHBOUR: 'it returns false'. Refute it at one input. -/
def provUndoneWrong : ChangeSpec := { name := "provUndone", fn := fun _ => fun
  | [d1, d2, d3, d4, d5, d6] => { results := [.lit (.bool false)], args := [d1, d2, d3, d4, d5, d6] }
  | _ => none }
def ProvUndoneWrongFalsely : Prop := provUndoneRow.holds Tryz.pinned (OpenSpec.ofChange provUndoneWrong)

/-- 'pontagelaw18.ProvOwn': WHATEVER THE INPUT: true; the input reads as it did. -/
def provOwnSpec : ChangeSpec := { name := "provOwn", fn := fun _ => fun
  | [d1, d2, d3, d4] => { results := [.lit (.bool true)], args := [d1, d2, d3, d4] }
  | _ => none }
def provOwnRow : OpenClaim := { program := "ytbiolkmddpkheaagreat", sum := "7c8918aa3c3c669a2f83c1be42978b973f26c69c79f58e075fa597df2e697ade", func := "pontage/pontagelaw18.ProvOwn", spec := "provOwn", inPlace := ["slices.overlaps[pontage/api.Map]", "slices.overlaps[pontage/api.Carry]", "slices.overlaps[pontage/api.Member]"], unfollowed := true, recurses := true, apart := false }
def ProvOwnSaid : Prop := provOwnRow.holds Tryz.pinned (OpenSpec.ofChange provOwnSpec)

/-- ITS FALSE NEIGHBOUR: 'it returns false'. Refute it at one input. -/
def provOwnWrong : ChangeSpec := { name := "provOwn", fn := fun _ => fun
  | [d1, d2, d3, d4] => { results := [.lit (.bool false)], args := [d1, d2, d3, d4] }
  | _ => none }
def ProvOwnWrongFalsely : Prop := provOwnRow.holds Tryz.pinned (OpenSpec.ofChange provOwnWrong)

/-- 'pontagelaw18.ProvAsks': WHATEVER THE INPUT: true; the input reads as it did. -/
def provAsksSpec : ChangeSpec := { name := "provAsks", fn := fun _ => fun
  | [d1, d2, d3, d4] => { results := [.lit (.bool true)], args := [d1, d2, d3, d4] }
  | _ => none }
def provAsksRow : OpenClaim := { program := "ytbiolkmddpkheaagreat", sum := "7c8918aa3c3c669a2f83c1be42978b973f26c69c79f58e075fa597df2e697ade", func := "pontage/pontagelaw18.ProvAsks", spec := "provAsks", inPlace := ["slices.overlaps[pontage/api.Map]", "slices.overlaps[pontage/api.Carry]", "slices.overlaps[pontage/api.Member]"], unfollowed := true, recurses := true, apart := false }
def ProvAsksSaid : Prop := provAsksRow.holds Tryz.pinned (OpenSpec.ofChange provAsksSpec)

/-- ITS FALSE NEIGHBOUR: 'it returns false'. Refute it at one input. -/
def provAsksWrong : ChangeSpec := { name := "provAsks", fn := fun _ => fun
  | [d1, d2, d3, d4] => { results := [.lit (.bool false)], args := [d1, d2, d3, d4] }
  | _ => none }
def ProvAsksWrongFalsely : Prop := provAsksRow.holds Tryz.pinned (OpenSpec.ofChange provAsksWrong)

/-- 'pontagelaw18.ProvOne': WHATEVER THE INPUT: true; the input reads as it did. -/
def provOneSpec : ChangeSpec := { name := "provOne", fn := fun _ => fun
  | [d1, d2, d3] => { results := [.lit (.bool true)], args := [d1, d2, d3] }
  | _ => none }
def provOneRow : OpenClaim := { program := "ytbiolkmddpkheaagreat", sum := "7c8918aa3c3c669a2f83c1be42978b973f26c69c79f58e075fa597df2e697ade", func := "pontage/pontagelaw18.ProvOne", spec := "provOne", inPlace := ["slices.overlaps[pontage/api.Map]", "slices.overlaps[pontage/api.Carry]", "slices.overlaps[pontage/api.Member]"], unfollowed := true, recurses := true, apart := false }
def ProvOneSaid : Prop := provOneRow.holds Tryz.pinned (OpenSpec.ofChange provOneSpec)

/-- ITS FALSE NEIGHBOUR: 'it returns false'. Refute it at one input. -/
def provOneWrong : ChangeSpec := { name := "provOne", fn := fun _ => fun
  | [d1, d2, d3] => { results := [.lit (.bool false)], args := [d1, d2, d3] }
  | _ => none }
def ProvOneWrongFalsely : Prop := provOneRow.holds Tryz.pinned (OpenSpec.ofChange provOneWrong)

/-- 'pontagelaw18.ProvChecks': WHATEVER THE INPUT: true; the input reads as it did. -/
def provChecksSpec : ChangeSpec := { name := "provChecks", fn := fun _ => fun
  | [d1, d2] => { results := [.lit (.bool true)], args := [d1, d2] }
  | _ => none }
def provChecksRow : OpenClaim := { program := "ytbiolkmddpkheaagreat", sum := "7c8918aa3c3c669a2f83c1be42978b973f26c69c79f58e075fa597df2e697ade", func := "pontage/pontagelaw18.ProvChecks", spec := "provChecks", inPlace := ["slices.overlaps[pontage/api.Map]", "slices.overlaps[pontage/api.Carry]", "slices.overlaps[pontage/api.Member]"], unfollowed := true, recurses := true, apart := false }
def ProvChecksSaid : Prop := provChecksRow.holds Tryz.pinned (OpenSpec.ofChange provChecksSpec)

/-- ITS FALSE NEIGHBOUR: 'it returns false'. Refute it at one input. -/
def provChecksWrong : ChangeSpec := { name := "provChecks", fn := fun _ => fun
  | [d1, d2] => { results := [.lit (.bool false)], args := [d1, d2] }
  | _ => none }
def ProvChecksWrongFalsely : Prop := provChecksRow.holds Tryz.pinned (OpenSpec.ofChange provChecksWrong)

/- THE SECOND FORM. 'bulk': how many values and letters a reading holds, each counted each time it is reached (what is shared counts as often as it is met; a slice's spare places count too). A statement '..UptoSaid' is the law's where the arguments, and the package variables that the reading takes, are together of bulk at most 1048576: NARROWER than '..Said'. Prove '..Said' where nothing that the law and all that it calls make is longer than what came in: it says more and counts as full. Else prove '..UptoSaid'. A law counts once. -/
mutual
def uptoBulk {H : Type} : DataW H → Nat
  | .lit (.string bytes) => bytes.length + 1
  | .lit _ => 1
  | .nil => 1
  | .ptr d => uptoBulk d + 1
  | .slice elems spare => uptoBulkAll elems + uptoBulkAll spare + 1
  | .agg parts => uptoBulkAll parts + 1
  | .iface _ d => uptoBulk d + 1
  | .map entries => uptoBulkEntries entries + 1
  | .held _ => 1
def uptoBulkAll {H : Type} : List (DataW H) → Nat
  | [] => 0
  | d :: r => uptoBulk d + uptoBulkAll r
def uptoBulkEntries {H : Type} : List (Lit × DataW H) → Nat
  | [] => 0
  | x :: r => uptoBulkEntry x + uptoBulkEntries r
def uptoBulkEntry {H : Type} : Lit × DataW H → Nat
  | (.string bytes, d) => bytes.length + uptoBulk d + 1
  | (_, d) => uptoBulk d + 1
 end
def uptoSmall : (H : Type) → List (DataW H) → Bool := fun _ ds => decide (uptoBulkAll ds ≤ 1048576)
def OpenSpec.upto (s : _root_.Go.ChangeSpec) : _root_.Go.OpenSpec := { _root_.Go.OpenSpec.ofChange s with cond := some uptoSmall }

/-- 'pontagelaw18.ProvDoes', WHERE WHAT IT READS IS OF BULK AT MOST 1048576: true; the input reads as it did. -/
def provDoesUptoRow : OpenClaim := { program := "ytbiolkmddpkheaagreat", sum := "7c8918aa3c3c669a2f83c1be42978b973f26c69c79f58e075fa597df2e697ade", func := "pontage/pontagelaw18.ProvDoes", spec := "provDoes", inPlace := ["slices.overlaps[pontage/api.Map]", "slices.overlaps[pontage/api.Carry]", "slices.overlaps[pontage/api.Member]"], unfollowed := true, recurses := true, apart := false, narrowed := true }
def ProvDoesUptoSaid : Prop := provDoesUptoRow.holds Tryz.pinned (OpenSpec.upto provDoesSpec)

/-- 'pontagelaw18.ProvRuns', WHERE WHAT IT READS IS OF BULK AT MOST 1048576: true; the input reads as it did. -/
def provRunsUptoRow : OpenClaim := { program := "ytbiolkmddpkheaagreat", sum := "7c8918aa3c3c669a2f83c1be42978b973f26c69c79f58e075fa597df2e697ade", func := "pontage/pontagelaw18.ProvRuns", spec := "provRuns", inPlace := ["slices.overlaps[pontage/api.Map]", "slices.overlaps[pontage/api.Carry]", "slices.overlaps[pontage/api.Member]"], unfollowed := true, recurses := true, apart := false, narrowed := true }
def ProvRunsUptoSaid : Prop := provRunsUptoRow.holds Tryz.pinned (OpenSpec.upto provRunsSpec)

/-- 'pontagelaw18.ProvUndone', WHERE WHAT IT READS IS OF BULK AT MOST 1048576: true; the input reads as it did. -/
def provUndoneUptoRow : OpenClaim := { program := "ytbiolkmddpkheaagreat", sum := "7c8918aa3c3c669a2f83c1be42978b973f26c69c79f58e075fa597df2e697ade", func := "pontage/pontagelaw18.ProvUndone", spec := "provUndone", inPlace := ["slices.overlaps[pontage/api.Map]", "slices.overlaps[pontage/api.Carry]", "slices.overlaps[pontage/api.Member]"], unfollowed := true, recurses := true, apart := false, narrowed := true }
def ProvUndoneUptoSaid : Prop := provUndoneUptoRow.holds Tryz.pinned (OpenSpec.upto provUndoneSpec)

/-- 'pontagelaw18.ProvOwn', WHERE WHAT IT READS IS OF BULK AT MOST 1048576: true; the input reads as it did. -/
def provOwnUptoRow : OpenClaim := { program := "ytbiolkmddpkheaagreat", sum := "7c8918aa3c3c669a2f83c1be42978b973f26c69c79f58e075fa597df2e697ade", func := "pontage/pontagelaw18.ProvOwn", spec := "provOwn", inPlace := ["slices.overlaps[pontage/api.Map]", "slices.overlaps[pontage/api.Carry]", "slices.overlaps[pontage/api.Member]"], unfollowed := true, recurses := true, apart := false, narrowed := true }
def ProvOwnUptoSaid : Prop := provOwnUptoRow.holds Tryz.pinned (OpenSpec.upto provOwnSpec)

/-- 'pontagelaw18.ProvAsks', WHERE WHAT IT READS IS OF BULK AT MOST 1048576: true; the input reads as it did. -/
def provAsksUptoRow : OpenClaim := { program := "ytbiolkmddpkheaagreat", sum := "7c8918aa3c3c669a2f83c1be42978b973f26c69c79f58e075fa597df2e697ade", func := "pontage/pontagelaw18.ProvAsks", spec := "provAsks", inPlace := ["slices.overlaps[pontage/api.Map]", "slices.overlaps[pontage/api.Carry]", "slices.overlaps[pontage/api.Member]"], unfollowed := true, recurses := true, apart := false, narrowed := true }
def ProvAsksUptoSaid : Prop := provAsksUptoRow.holds Tryz.pinned (OpenSpec.upto provAsksSpec)

/-- 'pontagelaw18.ProvOne', WHERE WHAT IT READS IS OF BULK AT MOST 1048576: true; the input reads as it did. -/
def provOneUptoRow : OpenClaim := { program := "ytbiolkmddpkheaagreat", sum := "7c8918aa3c3c669a2f83c1be42978b973f26c69c79f58e075fa597df2e697ade", func := "pontage/pontagelaw18.ProvOne", spec := "provOne", inPlace := ["slices.overlaps[pontage/api.Map]", "slices.overlaps[pontage/api.Carry]", "slices.overlaps[pontage/api.Member]"], unfollowed := true, recurses := true, apart := false, narrowed := true }
def ProvOneUptoSaid : Prop := provOneUptoRow.holds Tryz.pinned (OpenSpec.upto provOneSpec)

/-- 'pontagelaw18.ProvChecks', WHERE WHAT IT READS IS OF BULK AT MOST 1048576: true; the input reads as it did. -/
def provChecksUptoRow : OpenClaim := { program := "ytbiolkmddpkheaagreat", sum := "7c8918aa3c3c669a2f83c1be42978b973f26c69c79f58e075fa597df2e697ade", func := "pontage/pontagelaw18.ProvChecks", spec := "provChecks", inPlace := ["slices.overlaps[pontage/api.Map]", "slices.overlaps[pontage/api.Carry]", "slices.overlaps[pontage/api.Member]"], unfollowed := true, recurses := true, apart := false, narrowed := true }
def ProvChecksUptoSaid : Prop := provChecksUptoRow.holds Tryz.pinned (OpenSpec.upto provChecksSpec)

end Rows
end Go.Proofs.YtbiolkmddpkheaaGreat
