/- Contracts of functions of the loaded program: called with data in the ranges that each names, it returns this value and writes to no old memory. -/
import Derived.Test.YtpadhpkplpiceaaCfdY
import Derived.Test.YtpadhpkplpiceaaCfdOp
set_option linter.unusedVariables false
set_option linter.unusedSimpArgs false
namespace Go.Ai
open Go.Proofs
theorem srt_ext {A B : List Ent} (ha : Srt A) (hb : Srt B) (h : ∀ x, x ∈ A ↔ x ∈ B) : A = B := by
  have nd : ∀ {A : List Ent}, Srt A → A.Nodup := fun h => h.imp fun {a b} hl he => by subst he; unfold ltE at hl; omega
  exact srt_unique (perm_nodup (nd ha) (nd hb) h) ha hb
theorem erase_mem {L : List Ent} {k : Nat} {x : Ent} (hs : Srt L) (hk : L[k]? = some x) (y : Ent) : y ∈ L.eraseIdx k ↔ y ∈ L ∧ keyOf y ≠ keyOf x := by
  constructor
  · intro h
    exact ⟨List.mem_of_mem_eraseIdx h, sub_key (N := []) hs hk rfl y h⟩
  · rintro ⟨h1, h2⟩
    rcases List.mem_cons.1 ((perm_erase hk).mem_iff.1 h1) with rfl | h3
    · exact (h2 rfl).elim
    · exact h3
/-- While there is room. -/
theorem learnR_mem {r : Int} {L : List Ent} (hs : Srt L) (hl : (L.length : Int) < r) (e x : Ent) : x ∈ learnR r L e ↔ x = e ∨ (x ∈ L ∧ keyOf x ≠ keyOf e) := by
  unfold learnR
  cases hj : L.findIdx? (isK e.i e.c) with
  | some k =>
    obtain ⟨y, h1, h2, _⟩ := look_idx hj
    obtain ⟨hi, hm⟩ := isK_eq h2
    have hk : keyOf y = keyOf e := by simp [keyOf, hi, hm]
    simp only
    rw [(insE_perm e _).mem_iff, List.mem_cons, erase_mem hs h1, hk]
  | none =>
    simp only
    rw [if_neg (by omega), (insE_perm e _).mem_iff, List.mem_cons]
    have : ∀ x ∈ L, keyOf x ≠ keyOf e := by
      intro x hx he
      rw [List.findIdx?_eq_none_iff] at hj
      have := hj x hx
      simp only [keyOf, Prod.mk.injEq] at he
      simp [isK, he] at this
    constructor
    · rintro (h | h)
      · exact .inl h
      · exact .inr ⟨h, this x h⟩
    · rintro (h | h)
      · exact .inl h
      · exact .inr h.1
end Go.Ai
