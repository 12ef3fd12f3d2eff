/- An interpreter of the language over data, and the proof that what it answers is what the machine does; no condition. -/
import Derived.Test.YtdojjjjhbgkpfaaAiTr
import Derived.TacticsInMore
import Derived.OwnWalkIn
import Derived.WalkKit
set_option linter.unusedVariables false
namespace Go.Ai
theorem tms_pz {l : List (Nat × V)} {mv : List Nat} (h : ∀ p ∈ l, p.2.pz mv = p.2) : ∀ i, (Go.Ai.tms l i).pz mv = Go.Ai.tms l i := by
  induction l with
  | nil => intro i; simp [tms_nil, V.pz]
  | cons p l ih =>
    intro i
    obtain ⟨j, v⟩ := p
    rw [tms_cons]
    split
    · exact h (j, v) (by simp)
    · exact ih (fun q hq => h q (by simp [hq])) i
theorem tms_sub {l : List (Nat × V)} {tm : Nat → V} (h : ∀ p ∈ l, tm p.1 = p.2) : ∀ i, Go.Ai.tms l i = tm i ∨ Go.Ai.tms l i = .undef := by
  induction l with
  | nil => intro i; exact .inr (tms_nil i)
  | cons p l ih =>
    intro i
    obtain ⟨j, v⟩ := p
    rw [tms_cons]
    split
    · rename_i e
      subst e
      exact .inl (h (i, v) (by simp)).symm
    · exact ih (fun q hq => h q (by simp [hq])) i
theorem awp_range {P : Program} {g : Operand} {ps : Array Tmp} {asg b : Code} {Q : Ctl → St → Prop} {S : St} {K : St → Prop} (h : RangeBy P g ps asg b S K) (hk : ∀ S', K S' → Q .normal S') : awp P (.rangeFunc g ps asg b) Q S := ⟨K, h, hk⟩
section
open Go.RowKit
attribute [local go_sem] Oper.semAt_some
set_option maxRecDepth 100000 in
theorem wpIn_assign1 {P : Program} {F : Fence} {m id p0 p1 : Nat} {ty : TypeId} {pos : String} {tmps : Array Value} {W : World} {K : Act → World → Prop} (hK : K { tmps := tmps.setIfInBounds p1 (tmps.getD p0 undef), defers := [] } W) :
    (Code.region id #[{ dst := some p1, op := Op.assign (Operand.tmp p0), type := ty, pos := pos, after := #[], guard := none }] false).wpIn F m P (Exit.then K fun _ _ _ => False) { tmps := tmps, defers := [] } W := by
  gi_wp2
  rename_i Q' K' hk
  cases hr : F.round <;> simp [hr, go_sem, Oper.semAt, Oper.uponIn]
  all_goals
    rw [Array.getD_eq_getD_getElem?] at hK
    exact hk _ _ hK
end
end Go.Ai
