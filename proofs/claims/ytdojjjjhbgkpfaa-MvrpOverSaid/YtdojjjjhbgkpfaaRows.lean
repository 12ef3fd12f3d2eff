/-
  No cell of these rows narrows 'for every input' (looked for: loops, veiled, ifaces, maps, wideKeys, modest, calm, conditions, laid).
  DERIVED. THE GIVEN ROWS OF THIS SEAT. 6 by the template 'for every input the law returns true; each argument reads behind the call as it read before'; 0 by the template 'total and deterministic' (their statements: YtdojjjjhbgkpfaaTotals.lean).
  GIVEN WITH THE SEED: the statements are not yours to turn. If you find one false, say at which input.
  Laid BY PROGRAM, IN A SANDBOX (cutbox-rows.mjs): the forced cells as the released guide's own fill.sh prints them over the translation 905cc56bf94657e7… (all of the seat's roots in one cut). By AI agents, Wed Nov 11 2026. No macro, syntax, notation, axiom, sorry.
-/
import Derived.Test.YtdojjjjhbgkpfaaChecked
import GoSem.Claim
import GoSem.ClaimJoined
import GoSem.ClaimMapViews
import Derived.JoinedTies
import Derived.KernelRfl
namespace Go.Proofs.Ytdojjjjhbgkpfaa
/- THE CELL 'sum', in the pinned program and in every row, IS THE sha256 OF THE DUMP (.gsa) THAT YtdojjjjhbgkpfaaProg.lean LOADS. Nothing in Lean hashes anything: it is a label: what it is worth is what the hold of that sum in a sandbox is worth. -/
noncomputable def Try.pinned : Pinned := { name := "ytdojjjjhbgkpfaa", sum := "905cc56bf94657e79442cb43108e6749ce90cd1cc3459bdb5e8ff8a503fb5dc9", checked := Try.checked }
namespace Rows
def none {H : Type} : Left H := { results := [], args := [] }

/-- 'pontagelaw29.MvrpMessages': WHATEVER THE INPUT: true; the input reads as it did. -/
def mvrpMessagesSpec : ChangeSpec := { name := "mvrpMessages", fn := fun _ => fun
  | [d1, d2] => { results := [.lit (.bool true)], args := [d1, d2] }
  | _ => none }
def mvrpMessagesRow : OpenClaim := { program := "ytdojjjjhbgkpfaa", sum := "905cc56bf94657e79442cb43108e6749ce90cd1cc3459bdb5e8ff8a503fb5dc9", func := "pontage/pontagelaw29.MvrpMessages", spec := "mvrpMessages", unfollowed := true, recurses := true, apart := false }
def MvrpMessagesSaid : Prop := mvrpMessagesRow.holds Try.pinned (OpenSpec.ofChange mvrpMessagesSpec)

/-- ITS FALSE NEIGHBOUR: 'it returns false'. Refute it at one input. -/
def mvrpMessagesWrong : ChangeSpec := { name := "mvrpMessages", fn := fun _ => fun
  | [d1, d2] => { results := [.lit (.bool false)], args := [d1, d2] }
  | _ => none }
def MvrpMessagesWrongFalsely : Prop := mvrpMessagesRow.holds Try.pinned (OpenSpec.ofChange mvrpMessagesWrong)

/-- 'pontagelaw29.MvrpBack': WHATEVER THE INPUT: true; the input reads as it did. -/
def mvrpBackSpec : ChangeSpec := { name := "mvrpBack", fn := fun _ => fun
  | [d1, d2] => { results := [.lit (.bool true)], args := [d1, d2] }
  | _ => none }
def mvrpBackRow : OpenClaim := { program := "ytdojjjjhbgkpfaa", sum := "905cc56bf94657e79442cb43108e6749ce90cd1cc3459bdb5e8ff8a503fb5dc9", func := "pontage/pontagelaw29.MvrpBack", spec := "mvrpBack", unfollowed := true, recurses := true, apart := false }
def MvrpBackSaid : Prop := mvrpBackRow.holds Try.pinned (OpenSpec.ofChange mvrpBackSpec)

/-- ITS FALSE NEIGHBOUR: 'it returns false'. Refute it at one input. -/
def mvrpBackWrong : ChangeSpec := { name := "mvrpBack", fn := fun _ => fun
  | [d1, d2] => { results := [.lit (.bool false)], args := [d1, d2] }
  | _ => none }
def MvrpBackWrongFalsely : Prop := mvrpBackRow.holds Try.pinned (OpenSpec.ofChange mvrpBackWrong)

/-- 'pontagelaw29.MvrpStays': WHATEVER THE INPUT: true; the input reads as it did. -/
def mvrpStaysSpec : ChangeSpec := { name := "mvrpStays", fn := fun _ => fun
  | [d1, d2, d3, d4] => { results := [.lit (.bool true)], args := [d1, d2, d3, d4] }
  | _ => none }
def mvrpStaysRow : OpenClaim := { program := "ytdojjjjhbgkpfaa", sum := "905cc56bf94657e79442cb43108e6749ce90cd1cc3459bdb5e8ff8a503fb5dc9", func := "pontage/pontagelaw29.MvrpStays", spec := "mvrpStays", unfollowed := true, recurses := true, apart := false }
def MvrpStaysSaid : Prop := mvrpStaysRow.holds Try.pinned (OpenSpec.ofChange mvrpStaysSpec)

/-- ITS FALSE NEIGHBOUR: 'it returns false'. Refute it at one input. -/
def mvrpStaysWrong : ChangeSpec := { name := "mvrpStays", fn := fun _ => fun
  | [d1, d2, d3, d4] => { results := [.lit (.bool false)], args := [d1, d2, d3, d4] }
  | _ => none }
def MvrpStaysWrongFalsely : Prop := mvrpStaysRow.holds Try.pinned (OpenSpec.ofChange mvrpStaysWrong)

/-- 'pontagelaw29.MvrpOver': WHATEVER THE INPUT: true; the input reads as it did. -/
def mvrpOverSpec : ChangeSpec := { name := "mvrpOver", fn := fun _ => fun
  | [d1, d2, d3] => { results := [.lit (.bool true)], args := [d1, d2, d3] }
  | _ => none }
def mvrpOverRow : OpenClaim := { program := "ytdojjjjhbgkpfaa", sum := "905cc56bf94657e79442cb43108e6749ce90cd1cc3459bdb5e8ff8a503fb5dc9", func := "pontage/pontagelaw29.MvrpOver", spec := "mvrpOver", unfollowed := true, recurses := true, apart := false }
def MvrpOverSaid : Prop := mvrpOverRow.holds Try.pinned (OpenSpec.ofChange mvrpOverSpec)

/-- ITS FALSE NEIGHBOUR: 'it returns false'. Refute it at one input. -/
def mvrpOverWrong : ChangeSpec := { name := "mvrpOver", fn := fun _ => fun
  | [d1, d2, d3] => { results := [.lit (.bool false)], args := [d1, d2, d3] }
  | _ => none }
def MvrpOverWrongFalsely : Prop := mvrpOverRow.holds Try.pinned (OpenSpec.ofChange mvrpOverWrong)

/-- 'pontagelaw29.MvrpRuns': WHATEVER THE INPUT: true; the input reads as it did. -/
def mvrpRunsSpec : ChangeSpec := { name := "mvrpRuns", fn := fun _ => fun
  | [d1, d2] => { results := [.lit (.bool true)], args := [d1, d2] }
  | _ => none }
def mvrpRunsRow : OpenClaim := { program := "ytdojjjjhbgkpfaa", sum := "905cc56bf94657e79442cb43108e6749ce90cd1cc3459bdb5e8ff8a503fb5dc9", func := "pontage/pontagelaw29.MvrpRuns", spec := "mvrpRuns", unfollowed := true, recurses := true, apart := false }
def MvrpRunsSaid : Prop := mvrpRunsRow.holds Try.pinned (OpenSpec.ofChange mvrpRunsSpec)

/-- ITS FALSE NEIGHBOUR: 'it returns false'. Refute it at one input. -/
def mvrpRunsWrong : ChangeSpec := { name := "mvrpRuns", fn := fun _ => fun
  | [d1, d2] => { results := [.lit (.bool false)], args := [d1, d2] }
  | _ => none }
def MvrpRunsWrongFalsely : Prop := mvrpRunsRow.holds Try.pinned (OpenSpec.ofChange mvrpRunsWrong)

/-- 'pontagelaw29.MvrpNobody': WHATEVER THE INPUT: true; the input reads as it did. -/
def mvrpNobodySpec : ChangeSpec := { name := "mvrpNobody", fn := fun _ => fun
  | [d] => { results := [.lit (.bool true)], args := [d] }
  | _ => none }
def mvrpNobodyRow : OpenClaim := { program := "ytdojjjjhbgkpfaa", sum := "905cc56bf94657e79442cb43108e6749ce90cd1cc3459bdb5e8ff8a503fb5dc9", func := "pontage/pontagelaw29.MvrpNobody", spec := "mvrpNobody", unfollowed := true, recurses := true, apart := false }
def MvrpNobodySaid : Prop := mvrpNobodyRow.holds Try.pinned (OpenSpec.ofChange mvrpNobodySpec)

/-- ITS FALSE NEIGHBOUR: 'it returns false'. Refute it at one input. -/
def mvrpNobodyWrong : ChangeSpec := { name := "mvrpNobody", fn := fun _ => fun
  | [d] => { results := [.lit (.bool false)], args := [d] }
  | _ => none }
def MvrpNobodyWrongFalsely : Prop := mvrpNobodyRow.holds Try.pinned (OpenSpec.ofChange mvrpNobodyWrong)

/- THE SECOND FORM. 'bulk': how many values and letters a reading holds, each counted each time it is reached (what is shared counts as often as it is met; a slice's spare places count too). A statement '..UptoSaid' is the law's where the arguments, and the package variables that the reading takes, are together of bulk at most 1048576: NARROWER than '..Said'. Prove '..Said' where nothing that the law and all that it calls make is longer than what came in: it says more and counts as full. Else prove '..UptoSaid'. A law counts once. -/
mutual
def uptoBulk {H : Type} : DataW H → Nat
  | .lit (.string bytes) => bytes.length + 1
  | .lit _ => 1
  | .nil => 1
  | .ptr d => uptoBulk d + 1
  | .slice elems spare => uptoBulkAll elems + uptoBulkAll spare + 1
  | .agg parts => uptoBulkAll parts + 1
  | .iface _ d => uptoBulk d + 1
  | .map entries => uptoBulkEntries entries + 1
  | .held _ => 1
def uptoBulkAll {H : Type} : List (DataW H) → Nat
  | [] => 0
  | d :: r => uptoBulk d + uptoBulkAll r
def uptoBulkEntries {H : Type} : List (Lit × DataW H) → Nat
  | [] => 0
  | x :: r => uptoBulkEntry x + uptoBulkEntries r
def uptoBulkEntry {H : Type} : Lit × DataW H → Nat
  | (.string bytes, d) => bytes.length + uptoBulk d + 1
  | (_, d) => uptoBulk d + 1
 end
def uptoSmall : (H : Type) → List (DataW H) → Bool := fun _ ds => decide (uptoBulkAll ds ≤ 1048576)
def OpenSpec.upto (s : _root_.Go.ChangeSpec) : _root_.Go.OpenSpec := { _root_.Go.OpenSpec.ofChange s with cond := some uptoSmall }

/-- 'pontagelaw29.MvrpMessages', WHERE WHAT IT READS IS OF BULK AT MOST 1048576: true; the input reads as it did. -/
def mvrpMessagesUptoRow : OpenClaim := { program := "ytdojjjjhbgkpfaa", sum := "905cc56bf94657e79442cb43108e6749ce90cd1cc3459bdb5e8ff8a503fb5dc9", func := "pontage/pontagelaw29.MvrpMessages", spec := "mvrpMessages", unfollowed := true, recurses := true, apart := false, narrowed := true }
def MvrpMessagesUptoSaid : Prop := mvrpMessagesUptoRow.holds Try.pinned (OpenSpec.upto mvrpMessagesSpec)

/-- 'pontagelaw29.MvrpBack', WHERE WHAT IT READS IS OF BULK AT MOST 1048576: true; the input reads as it did. -/
def mvrpBackUptoRow : OpenClaim := { program := "ytdojjjjhbgkpfaa", sum := "905cc56bf94657e79442cb43108e6749ce90cd1cc3459bdb5e8ff8a503fb5dc9", func := "pontage/pontagelaw29.MvrpBack", spec := "mvrpBack", unfollowed := true, recurses := true, apart := false, narrowed := true }
def MvrpBackUptoSaid : Prop := mvrpBackUptoRow.holds Try.pinned (OpenSpec.upto mvrpBackSpec)

/-- 'pontagelaw29.MvrpStays', WHERE WHAT IT READS IS OF BULK AT MOST 1048576: true; the input reads as it did. -/
def mvrpStaysUptoRow : OpenClaim := { program := "ytdojjjjhbgkpfaa", sum := "905cc56bf94657e79442cb43108e6749ce90cd1cc3459bdb5e8ff8a503fb5dc9", func := "pontage/pontagelaw29.MvrpStays", spec := "mvrpStays", unfollowed := true, recurses := true, apart := false, narrowed := true }
def MvrpStaysUptoSaid : Prop := mvrpStaysUptoRow.holds Try.pinned (OpenSpec.upto mvrpStaysSpec)

/-- 'pontagelaw29.MvrpOver', WHERE WHAT IT READS IS OF BULK AT MOST 1048576: true; the input reads as it did. -/
def mvrpOverUptoRow : OpenClaim := { program := "ytdojjjjhbgkpfaa", sum := "905cc56bf94657e79442cb43108e6749ce90cd1cc3459bdb5e8ff8a503fb5dc9", func := "pontage/pontagelaw29.MvrpOver", spec := "mvrpOver", unfollowed := true, recurses := true, apart := false, narrowed := true }
def MvrpOverUptoSaid : Prop := mvrpOverUptoRow.holds Try.pinned (OpenSpec.upto mvrpOverSpec)

/-- 'pontagelaw29.MvrpRuns', WHERE WHAT IT READS IS OF BULK AT MOST 1048576: true; the input reads as it did. -/
def mvrpRunsUptoRow : OpenClaim := { program := "ytdojjjjhbgkpfaa", sum := "905cc56bf94657e79442cb43108e6749ce90cd1cc3459bdb5e8ff8a503fb5dc9", func := "pontage/pontagelaw29.MvrpRuns", spec := "mvrpRuns", unfollowed := true, recurses := true, apart := false, narrowed := true }
def MvrpRunsUptoSaid : Prop := mvrpRunsUptoRow.holds Try.pinned (OpenSpec.upto mvrpRunsSpec)

/-- 'pontagelaw29.MvrpNobody', WHERE WHAT IT READS IS OF BULK AT MOST 1048576: true; the input reads as it did. -/
def mvrpNobodyUptoRow : OpenClaim := { program := "ytdojjjjhbgkpfaa", sum := "905cc56bf94657e79442cb43108e6749ce90cd1cc3459bdb5e8ff8a503fb5dc9", func := "pontage/pontagelaw29.MvrpNobody", spec := "mvrpNobody", unfollowed := true, recurses := true, apart := false, narrowed := true }
def MvrpNobodyUptoSaid : Prop := mvrpNobodyUptoRow.holds Try.pinned (OpenSpec.upto mvrpNobodySpec)

end Rows
end Go.Proofs.Ytdojjjjhbgkpfaa
