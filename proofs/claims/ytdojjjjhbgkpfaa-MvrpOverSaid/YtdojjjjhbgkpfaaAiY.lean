/- An interpreter of the language over data, and the proof that what it answers is what the machine does; no condition. -/
import Derived.Test.YtdojjjjhbgkpfaaAiN
set_option linter.unusedVariables false
set_option linter.unusedSimpArgs false
namespace Go.Ai
/-- Some temporaries, under other tags. -/
def selF (f : Nat → Option Nat) (tm : Nat → V) : List Nat → Option (List (Nat × V))
  | [] => some []
  | i :: r => ((tm i).rn f).bind fun v => (selF f tm r).map fun l => (i, v) :: l
theorem selF_nil (f : Nat → Option Nat) (tm : Nat → V) : selF f tm [] = some [] := rfl
theorem selF_cons (f : Nat → Option Nat) (tm : Nat → V) (i : Nat) (r : List Nat) : selF f tm (i :: r) = ((tm i).rn f).bind fun v => (selF f tm r).map fun l => (i, v) :: l := rfl
theorem selF_ok {f : Nat → Option Nat} {tm : Nat → V} : ∀ {is : List Nat} {l : List (Nat × V)}, selF f tm is = some l → ∀ p ∈ l, (tm p.1).rn f = some p.2
  | [], l, h, p, hp => by simp [selF] at h; subst h; simp at hp
  | i :: r, l, h, p, hp => by
    simp only [selF, Option.bind_eq_some_iff, Option.map_eq_some_iff] at h
    obtain ⟨v, h1, l', h2, rfl⟩ := h
    rcases List.mem_cons.1 hp with rfl | hp
    · exact h1
    · exact selF_ok h2 p hp
/-- Only these blocks are kept, in this order. -/
theorem Weak.selI (kept is : List Nat) {tm : Nat → V} {σ σ0 : List Blk} {mv : List Nat} {l : List (Nat × V)} (hn : kept.Nodup) (h1 : selF (keepF kept) tm is = some l) (h2 : selB (keepF kept) σ kept = some σ0) :
    Weak ⟨tm, σ, mv⟩ ⟨Go.Ai.tms l, σ0, mv ++ List.range σ.length⟩ := by
  have h1' := selF_ok h1
  refine ⟨fun t ht => by simp only [List.mem_append]; exact .inl ht, fun β I w hi => ?_⟩
  obtain ⟨hf, i1, s1⟩ := sel_inv hi hn h2
  refine ⟨_, I, i1, s1, fun i c hv => ?_, fun t x hx ht => ?_⟩
  · have key : (∃ p ∈ l, p.1 = i ∧ Go.Ai.tms l i = p.2) ∨ Go.Ai.tms l i = .undef := by
      clear h1 h1'
      induction l with
      | nil => exact .inr rfl
      | cons p l ih =>
        obtain ⟨j, v⟩ := p
        rw [tms_cons]
        split
        · rename_i e; subst e; exact .inl ⟨(i, v), by simp, rfl, rfl⟩
        · rcases ih with ⟨p, hp, h⟩ | h
          · exact .inl ⟨p, by simp [hp], h⟩
          · exact .inr h
    show VR _ I (Go.Ai.tms l i) c
    rcases key with ⟨p, hp, rfl, h⟩ | h
    · rw [h]; exact VR.rn hf _ (h1' p hp) hv
    · rw [h]; simp [VR]
  · have hlt := hi.lt hx
    exact (ht (List.mem_append_right _ (List.mem_range.2 hlt))).elim
/-- A box's cells, less told. -/
theorem Weak.box (t : Nat) {tm : Nat → V} {σ : List Blk} {mv : List Nat} {cells cells' : List V} (hσ : σ[t]? = some (.box cells false)) (hl : cells'.length = cells.length) (hr : ∀ β I vs, VRs β I cells vs → VRs β I cells' vs) : Weak ⟨tm, σ, mv⟩ ⟨tm, σ.set t (.box cells' false), mv⟩ := by
  refine ⟨fun _ h => h, fun β I w hi => ⟨β, I, ?_, Step.refl _ _ _, fun _ _ h => h, fun _ _ hx _ => hx⟩⟩
  refine ⟨hi.imm, fun t' k hk => ?_, fun t' x hx => ?_, hi.inj⟩
  · by_cases h : t' = t
    · subst h
      have hlt := (List.getElem?_eq_some_iff.1 hσ).1
      rw [List.getElem?_set_self hlt] at hk
      simp at hk
      subst hk
      have := hi.blk t' _ hσ
      simp only [BlkR] at this ⊢
      obtain ⟨b, cs, e, h1, h2, h3, h4⟩ := this
      rw [hl]
      exact ⟨b, cs, e, h1, h2, hr _ _ _ h3, fun o _ => h4 o (.inl trivial)⟩
    · rw [List.getElem?_set_ne (Ne.symm h)] at hk
      exact hi.blk t' k hk
  · obtain ⟨k, h1, h2⟩ := hi.live t' x hx
    by_cases h : t' = t
    · subst h
      have hlt := (List.getElem?_eq_some_iff.1 hσ).1
      exact ⟨_, List.getElem?_set_self hlt, h2⟩
    · exact ⟨k, by rw [List.getElem?_set_ne (Ne.symm h)]; exact h1, h2⟩
end Go.Ai
