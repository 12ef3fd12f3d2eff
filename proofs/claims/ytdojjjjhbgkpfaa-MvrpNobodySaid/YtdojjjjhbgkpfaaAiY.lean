/- An interpreter of the language over data, and the proof that what it answers is what the machine does; no condition. -/
import Derived.Test.YtdojjjjhbgkpfaaAiN
set_option linter.unusedVariables false
set_option linter.unusedSimpArgs false
namespace Go.Ai
/-- A box's cells, less told. -/
theorem Weak.box (t : Nat) {tm : Nat → V} {σ : List Blk} {mv : List Nat} {cells cells' : List V} (hσ : σ[t]? = some (.box cells false)) (hl : cells'.length = cells.length) (hr : ∀ β I vs, VRs β I cells vs → VRs β I cells' vs) : Weak ⟨tm, σ, mv⟩ ⟨tm, σ.set t (.box cells' false), mv⟩ := by
  refine ⟨fun _ h => h, fun β I w hi => ⟨β, I, ?_, Step.refl _ _ _, fun _ _ h => h, fun _ _ hx _ => hx⟩⟩
  refine ⟨hi.imm, fun t' k hk => ?_, fun t' x hx => ?_, hi.inj⟩
  · by_cases h : t' = t
    · subst h
      have hlt := (List.getElem?_eq_some_iff.1 hσ).1
      rw [List.getElem?_set_self hlt] at hk
      simp at hk
      subst hk
      have := hi.blk t' _ hσ
      simp only [BlkR] at this ⊢
      obtain ⟨b, cs, e, h1, h2, h3, h4⟩ := this
      rw [hl]
      exact ⟨b, cs, e, h1, h2, hr _ _ _ h3, fun o _ => h4 o (.inl trivial)⟩
    · rw [List.getElem?_set_ne (Ne.symm h)] at hk
      exact hi.blk t' k hk
  · obtain ⟨k, h1, h2⟩ := hi.live t' x hx
    by_cases h : t' = t
    · subst h
      have hlt := (List.getElem?_eq_some_iff.1 hσ).1
      exact ⟨_, List.getElem?_set_self hlt, h2⟩
    · exact ⟨k, by rw [List.getElem?_set_ne (Ne.symm h)]; exact h1, h2⟩
end Go.Ai
