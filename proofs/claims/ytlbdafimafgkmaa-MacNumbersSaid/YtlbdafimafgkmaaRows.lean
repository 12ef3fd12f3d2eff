/-
  No cell of these rows narrows 'for every input' (looked for: loops, veiled, ifaces, maps, wideKeys, modest, calm, conditions, laid).
  DERIVED. THE GIVEN ROWS OF THIS SEAT. 6 by the template 'for every input the law returns true; each argument reads behind the call as it read before'; 0 by the template 'total and deterministic' (their statements: YtlbdafimafgkmaaTotals.lean).
  GIVEN WITH THE SEED: the statements are not yours to turn. If you find one false, say at which input.
  Laid BY PROGRAM, IN A SANDBOX (cutbox-rows.mjs): the forced cells as the released guide's own fill.sh prints them over the translation e738fc6bf422dbfd… (all of the seat's roots in one cut). By AI agents, Wed Nov 11 2026. No macro, syntax, notation, axiom, sorry.
-/
import Derived.Test.YtlbdafimafgkmaaChecked
import GoSem.Claim
import GoSem.ClaimJoined
import GoSem.ClaimMapViews
import Derived.JoinedTies
import Derived.KernelRfl
namespace Go.Proofs.Ytlbdafimafgkmaa
/- THE CELL 'sum', in the pinned program and in every row, IS THE sha256 OF THE DUMP (.gsa) THAT YtlbdafimafgkmaaProg.lean LOADS. Nothing in Lean hashes anything: it is a label: what it is worth is what the hold of that sum in a sandbox is worth. -/
noncomputable def Try.pinned : Pinned := { name := "ytlbdafimafgkmaa", sum := "e738fc6bf422dbfd52b28941e197e221ac7e19bb9b05555796b1bd310ef4c725", checked := Try.checked }
namespace Rows
def none {H : Type} : Left H := { results := [], args := [] }

/-- 'pontagelaw01.MacKinds': WHATEVER THE INPUT: true; the input reads as it did. -/
def macKindsSpec : ChangeSpec := { name := "macKinds", fn := fun _ => fun
  | [d] => { results := [.lit (.bool true)], args := [d] }
  | _ => none }
def macKindsRow : OpenClaim := { program := "ytlbdafimafgkmaa", sum := "e738fc6bf422dbfd52b28941e197e221ac7e19bb9b05555796b1bd310ef4c725", func := "pontage/pontagelaw01.MacKinds", spec := "macKinds", apart := false }
def MacKindsSaid : Prop := macKindsRow.holds Try.pinned (OpenSpec.ofChange macKindsSpec)

/-- ITS FALSE NEIGHBOUR: 'it returns false'. Refute it at one input. -/
def macKindsWrong : ChangeSpec := { name := "macKinds", fn := fun _ => fun
  | [d] => { results := [.lit (.bool false)], args := [d] }
  | _ => none }
def MacKindsWrongFalsely : Prop := macKindsRow.holds Try.pinned (OpenSpec.ofChange macKindsWrong)

/-- 'pontagelaw01.MacTexts': WHATEVER THE INPUT: true; the input reads as it did. -/
def macTextsSpec : ChangeSpec := { name := "macTexts", fn := fun _ => fun
  | [d1, d2] => { results := [.lit (.bool true)], args := [d1, d2] }
  | _ => none }
def macTextsRow : OpenClaim := { program := "ytlbdafimafgkmaa", sum := "e738fc6bf422dbfd52b28941e197e221ac7e19bb9b05555796b1bd310ef4c725", func := "pontage/pontagelaw01.MacTexts", spec := "macTexts", apart := false }
def MacTextsSaid : Prop := macTextsRow.holds Try.pinned (OpenSpec.ofChange macTextsSpec)

/-- ITS FALSE NEIGHBOUR: 'it returns false'. Refute it at one input. -/
def macTextsWrong : ChangeSpec := { name := "macTexts", fn := fun _ => fun
  | [d1, d2] => { results := [.lit (.bool false)], args := [d1, d2] }
  | _ => none }
def MacTextsWrongFalsely : Prop := macTextsRow.holds Try.pinned (OpenSpec.ofChange macTextsWrong)

/-- 'pontagelaw01.MacGroups': WHATEVER THE INPUT: true; the input reads as it did. -/
def macGroupsSpec : ChangeSpec := { name := "macGroups", fn := fun _ => fun
  | [d1, d2] => { results := [.lit (.bool true)], args := [d1, d2] }
  | _ => none }
def macGroupsRow : OpenClaim := { program := "ytlbdafimafgkmaa", sum := "e738fc6bf422dbfd52b28941e197e221ac7e19bb9b05555796b1bd310ef4c725", func := "pontage/pontagelaw01.MacGroups", spec := "macGroups", apart := false }
def MacGroupsSaid : Prop := macGroupsRow.holds Try.pinned (OpenSpec.ofChange macGroupsSpec)

/-- ITS FALSE NEIGHBOUR: 'it returns false'. Refute it at one input. -/
def macGroupsWrong : ChangeSpec := { name := "macGroups", fn := fun _ => fun
  | [d1, d2] => { results := [.lit (.bool false)], args := [d1, d2] }
  | _ => none }
def MacGroupsWrongFalsely : Prop := macGroupsRow.holds Try.pinned (OpenSpec.ofChange macGroupsWrong)

/-- 'pontagelaw01.MacBack': WHATEVER THE INPUT: true; the input reads as it did. -/
def macBackSpec : ChangeSpec := { name := "macBack", fn := fun _ => fun
  | [d1, d2, d3] => { results := [.lit (.bool true)], args := [d1, d2, d3] }
  | _ => none }
def macBackRow : OpenClaim := { program := "ytlbdafimafgkmaa", sum := "e738fc6bf422dbfd52b28941e197e221ac7e19bb9b05555796b1bd310ef4c725", func := "pontage/pontagelaw01.MacBack", spec := "macBack", apart := false }
def MacBackSaid : Prop := macBackRow.holds Try.pinned (OpenSpec.ofChange macBackSpec)

/-- ITS FALSE NEIGHBOUR: 'it returns false'. Refute it at one input. -/
def macBackWrong : ChangeSpec := { name := "macBack", fn := fun _ => fun
  | [d1, d2, d3] => { results := [.lit (.bool false)], args := [d1, d2, d3] }
  | _ => none }
def MacBackWrongFalsely : Prop := macBackRow.holds Try.pinned (OpenSpec.ofChange macBackWrong)

/-- 'pontagelaw01.MacApart': WHATEVER THE INPUT: true; the input reads as it did. -/
def macApartSpec : ChangeSpec := { name := "macApart", fn := fun _ => fun
  | [d1, d2, d3, d4, d5] => { results := [.lit (.bool true)], args := [d1, d2, d3, d4, d5] }
  | _ => none }
def macApartRow : OpenClaim := { program := "ytlbdafimafgkmaa", sum := "e738fc6bf422dbfd52b28941e197e221ac7e19bb9b05555796b1bd310ef4c725", func := "pontage/pontagelaw01.MacApart", spec := "macApart", apart := false }
def MacApartSaid : Prop := macApartRow.holds Try.pinned (OpenSpec.ofChange macApartSpec)

/-- ITS FALSE NEIGHBOUR: 'it returns false'. Refute it at one input. -/
def macApartWrong : ChangeSpec := { name := "macApart", fn := fun _ => fun
  | [d1, d2, d3, d4, d5] => { results := [.lit (.bool false)], args := [d1, d2, d3, d4, d5] }
  | _ => none }
def MacApartWrongFalsely : Prop := macApartRow.holds Try.pinned (OpenSpec.ofChange macApartWrong)

/-- 'pontagelaw01.MacNumbers': WHATEVER THE INPUT: true; the input reads as it did. -/
def macNumbersSpec : ChangeSpec := { name := "macNumbers", fn := fun _ => fun
  | [d1, d2, d3] => { results := [.lit (.bool true)], args := [d1, d2, d3] }
  | _ => none }
def macNumbersRow : OpenClaim := { program := "ytlbdafimafgkmaa", sum := "e738fc6bf422dbfd52b28941e197e221ac7e19bb9b05555796b1bd310ef4c725", func := "pontage/pontagelaw01.MacNumbers", spec := "macNumbers", apart := false }
def MacNumbersSaid : Prop := macNumbersRow.holds Try.pinned (OpenSpec.ofChange macNumbersSpec)

/-- ITS FALSE NEIGHBOUR: 'it returns false'. Refute it at one input. -/
def macNumbersWrong : ChangeSpec := { name := "macNumbers", fn := fun _ => fun
  | [d1, d2, d3] => { results := [.lit (.bool false)], args := [d1, d2, d3] }
  | _ => none }
def MacNumbersWrongFalsely : Prop := macNumbersRow.holds Try.pinned (OpenSpec.ofChange macNumbersWrong)

/- THE SECOND FORM. 'bulk': how many values and letters a reading holds, each counted each time it is reached (what is shared counts as often as it is met; a slice's spare places count too). A statement '..UptoSaid' is the law's where the arguments, and the package variables that the reading takes, are together of bulk at most 1048576: NARROWER than '..Said'. Prove '..Said' where nothing that the law and all that it calls make is longer than what came in: it says more and counts as full. Else prove '..UptoSaid'. A law counts once. -/
mutual
def uptoBulk {H : Type} : DataW H → Nat
  | .lit (.string bytes) => bytes.length + 1
  | .lit _ => 1
  | .nil => 1
  | .ptr d => uptoBulk d + 1
  | .slice elems spare => uptoBulkAll elems + uptoBulkAll spare + 1
  | .agg parts => uptoBulkAll parts + 1
  | .iface _ d => uptoBulk d + 1
  | .map entries => uptoBulkEntries entries + 1
  | .held _ => 1
def uptoBulkAll {H : Type} : List (DataW H) → Nat
  | [] => 0
  | d :: r => uptoBulk d + uptoBulkAll r
def uptoBulkEntries {H : Type} : List (Lit × DataW H) → Nat
  | [] => 0
  | x :: r => uptoBulkEntry x + uptoBulkEntries r
def uptoBulkEntry {H : Type} : Lit × DataW H → Nat
  | (.string bytes, d) => bytes.length + uptoBulk d + 1
  | (_, d) => uptoBulk d + 1
 end
def uptoSmall : (H : Type) → List (DataW H) → Bool := fun _ ds => decide (uptoBulkAll ds ≤ 1048576)
def OpenSpec.upto (s : _root_.Go.ChangeSpec) : _root_.Go.OpenSpec := { _root_.Go.OpenSpec.ofChange s with cond := some uptoSmall }

/-- 'pontagelaw01.MacKinds', WHERE WHAT IT READS IS OF BULK AT MOST 1048576: true; the input reads as it did. -/
def macKindsUptoRow : OpenClaim := { program := "ytlbdafimafgkmaa", sum := "e738fc6bf422dbfd52b28941e197e221ac7e19bb9b05555796b1bd310ef4c725", func := "pontage/pontagelaw01.MacKinds", spec := "macKinds", apart := false, narrowed := true }
def MacKindsUptoSaid : Prop := macKindsUptoRow.holds Try.pinned (OpenSpec.upto macKindsSpec)

/-- 'pontagelaw01.MacTexts', WHERE WHAT IT READS IS OF BULK AT MOST 1048576: true; the input reads as it did. -/
def macTextsUptoRow : OpenClaim := { program := "ytlbdafimafgkmaa", sum := "e738fc6bf422dbfd52b28941e197e221ac7e19bb9b05555796b1bd310ef4c725", func := "pontage/pontagelaw01.MacTexts", spec := "macTexts", apart := false, narrowed := true }
def MacTextsUptoSaid : Prop := macTextsUptoRow.holds Try.pinned (OpenSpec.upto macTextsSpec)

/-- 'pontagelaw01.MacGroups', WHERE WHAT IT READS IS OF BULK AT MOST 1048576: true; the input reads as it did. -/
def macGroupsUptoRow : OpenClaim := { program := "ytlbdafimafgkmaa", sum := "e738fc6bf422dbfd52b28941e197e221ac7e19bb9b05555796b1bd310ef4c725", func := "pontage/pontagelaw01.MacGroups", spec := "macGroups", apart := false, narrowed := true }
def MacGroupsUptoSaid : Prop := macGroupsUptoRow.holds Try.pinned (OpenSpec.upto macGroupsSpec)

/-- 'pontagelaw01.MacBack', WHERE WHAT IT READS IS OF BULK AT MOST 1048576: true; the input reads as it did. -/
def macBackUptoRow : OpenClaim := { program := "ytlbdafimafgkmaa", sum := "e738fc6bf422dbfd52b28941e197e221ac7e19bb9b05555796b1bd310ef4c725", func := "pontage/pontagelaw01.MacBack", spec := "macBack", apart := false, narrowed := true }
def MacBackUptoSaid : Prop := macBackUptoRow.holds Try.pinned (OpenSpec.upto macBackSpec)

/-- 'pontagelaw01.MacApart', WHERE WHAT IT READS IS OF BULK AT MOST 1048576: true; the input reads as it did. -/
def macApartUptoRow : OpenClaim := { program := "ytlbdafimafgkmaa", sum := "e738fc6bf422dbfd52b28941e197e221ac7e19bb9b05555796b1bd310ef4c725", func := "pontage/pontagelaw01.MacApart", spec := "macApart", apart := false, narrowed := true }
def MacApartUptoSaid : Prop := macApartUptoRow.holds Try.pinned (OpenSpec.upto macApartSpec)

/-- 'pontagelaw01.MacNumbers', WHERE WHAT IT READS IS OF BULK AT MOST 1048576: true; the input reads as it did. -/
def macNumbersUptoRow : OpenClaim := { program := "ytlbdafimafgkmaa", sum := "e738fc6bf422dbfd52b28941e197e221ac7e19bb9b05555796b1bd310ef4c725", func := "pontage/pontagelaw01.MacNumbers", spec := "macNumbers", apart := false, narrowed := true }
def MacNumbersUptoSaid : Prop := macNumbersUptoRow.holds Try.pinned (OpenSpec.upto macNumbersSpec)

end Rows
end Go.Proofs.Ytlbdafimafgkmaa
