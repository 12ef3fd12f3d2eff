/- A part of an interpreter of the language over data, and the proof that what it answers is what the machine does; no condition. -/
import Derived.Test.YtgppcipkllkgbaaAiEq
set_option linter.unusedVariables false
set_option linter.unusedSimpArgs false
namespace Go.Ai

section
variable {P : Program} {β : Nat → Option BV} {I : Imm} {w : World} {σ : List Blk}

/-! ### Numbers, strings, comparisons -/
theorem intBin_sound {op : BinOp} {k : IntKind} {a b : Int} {r : Value} (t : TypeId) (h : intBin op k a b = some r) (w : World) : (Go.binOp op t (.int k a) (.int k b)).run P w = .ok r w ∧ scalar r = true := by
  cases op <;> simp [intBin] at h <;>
    first
    | (subst h; simp [Go.binOp, Op.intArith, Op.intBits, Op.intCmp, scalar, bAnd, bOr, bXor, bAndNot]; done)
    | (obtain ⟨h0, rfl⟩ := h; simp [Go.binOp, Op.intDiv, h0, scalar])

theorem shiftBin_sound {op : BinOp} {k k' : IntKind} {a b : Int} {r : Value} (t : TypeId) (h : shiftBin op k a b = some r) (w : World) : (Go.binOp op t (.int k a) (.int k' b)).run P w = .ok r w ∧ scalar r = true := by
  unfold shiftBin at h
  split at h
  · simp at h
  · rename_i hb
    cases op <;> simp at h <;> (subst h; simp [Go.binOp, Op.shift, hb, scalar])

theorem strBin_sound {op : BinOp} {a b : ByteArray} {r : Value} (t : TypeId) (h : strBin op a b = some r) (w : World) : (Go.binOp op t (.string a) (.string b)).run P w = .ok r w ∧ scalar r = true := by
  cases op <;> simp only [strBin, Option.some.injEq] at h
  case add =>
    split at h
    · simp at h
    · rename_i hs
      simp at h
      subst h
      refine ⟨?_, rfl⟩
      simp only [Go.binOp, Op.stringOp]
      rw [if_neg hs]
      rfl
  all_goals first
    | (subst h; simp [Go.binOp, Op.stringOp, scalar]; done)
    | simp at h

theorem nilS_sound {e : TypeId} {x : V} {c : Value} {b : Bool} {t : TypeId} (h : nilS x = some b) (hx : VR β I x c) (hu : P.underlying t = some (.slice e)) (d : Nat) (w : World) :
    (Op.equalIn (d + 1) t c (.slice none 0 0)).run P w = .ok b w := by
  unfold nilS at h
  split at h <;> simp at h <;> subst h <;> simp only [VR, TR] at hx
  · obtain ⟨e, _⟩ := hx; subst e; simp [Op.equalIn, run_und hu]
  · obtain ⟨a', cap, e, h1, h2⟩ := hx
    rcases h2 with h2 | ⟨b, off, h2, _⟩
    · simp at h2
    · subst h2; subst e; simp [Op.equalIn, run_und hu]

theorem nilP_sound {e : TypeId} {x : V} {c : Value} {b : Bool} {t : TypeId} (h : nilP x = some b) (hx : VR β I x c) (hu : P.underlying t = some (.pointer e)) (d : Nat) (w : World) :
    (Op.equalIn (d + 1) t c (.pointer none)).run P w = .ok b w ∧ (Op.equalIn (d + 1) t (.pointer none) c).run P w = .ok b w := by
  unfold nilP at h
  split at h <;> simp at h <;> subst h <;> simp only [VR] at hx
  · obtain ⟨e, _⟩ := hx; subst e; simp [Op.equalIn, run_und hu]
  · obtain ⟨x, _, e⟩ := hx; subst e; simp [Op.equalIn, run_und hu]
  · obtain ⟨b, o, e, _⟩ := hx; subst e; simp [Op.equalIn, run_und hu]

theorem nilF_sound {ps rs : Array TypeId} {vd : Bool} {x : V} {c : Value} {b : Bool} {t : TypeId} (h : nilF x = some b) (hx : VR β I x c) (hu : P.underlying t = some (.func ps rs vd)) (d : Nat) (w : World) :
    (Op.equalIn (d + 1) t c .nilFunc).run P w = .ok b w := by
  unfold nilF at h
  split at h <;> simp at h <;> subst h <;> simp only [VR] at hx
  · obtain ⟨e, _⟩ := hx; subst e; simp [Op.equalIn, run_und hu]
  · obtain ⟨fv, cv, e, _⟩ := hx; subst e; simp [Op.equalIn, run_und hu]

theorem aeq_sound {t : TypeId} {x y : V} {c d : Value} {b : Bool} (h : aeq P t x y = some b) (hx : VR β I x c) (hy : VR β I y d) (w : World) : (Op.equal t c d).run P w = .ok b w := by
  unfold Op.equal Op.maxDepth
  unfold aeq at h
  split at h
  · rename_i hu
    split at h
    · simp only [VR] at hx hy
      obtain ⟨rfl, _⟩ := hx
      obtain ⟨rfl, _⟩ := hy
      simp at h
      subst h
      exact run_equalIn_bool' w 9999 t _ _ hu
    · simp at h
  · rename_i e hu
    split at h
    · simp only [VR] at hy
      obtain ⟨rfl, _⟩ := hy
      exact (nilP_sound h hx hu 9999 w).1
    · simp only [VR] at hx
      obtain ⟨rfl, _⟩ := hx
      exact (nilP_sound h hy hu 9999 w).2
    · simp at h
  · rename_i e hu
    split at h
    · simp only [VR] at hy
      obtain ⟨rfl, _⟩ := hy
      exact nilS_sound h hx hu 9999 w
    · simp at h
  · rename_i hu
    split at h
    · simp only [VR] at hy
      obtain ⟨rfl, _⟩ := hy
      exact nilF_sound h hx hu 9999 w
    · simp at h
  all_goals first
    | (rename_i hu
       split at h
       · rename_i xs ys
         rw [Option.bind_eq_some_iff] at h
         obtain ⟨ks, h1, h2⟩ := h
         simp only [VR] at hx hy
         obtain ⟨vs, rfl, hx⟩ := hx
         obtain ⟨us, rfl, hy⟩ := hy
         have he := equalIn_sound 20 t ks h1 10000 (by omega) w vs.toList us.toList b (eqCells_vals h2 hx hy)
         have ha : isAgg P t = some true := by simp [isAgg, hu]
         simpa [mkVal, ha] using he
       · simp at h)
    | simp at h

theorem aeq_guard {op : BinOp} {t : TypeId} {x y : V} {c d : Value} {b : Bool} (h : aeq P t x y = some b) (hx : VR β I x c) (hy : VR β I y d) (hd : 20 ≤ P.depth) (xo yo : Operand) (w : World) :
    (eqGuard op t xo yo c d).run P w = .ok () w := by
  unfold aeq at h
  split at h
  · split at h
    · simp only [VR] at hx hy
      obtain ⟨rfl, _⟩ := hx
      obtain ⟨rfl, _⟩ := hy
      cases op <;> simp [eqGuard]
    · simp at h
  · split at h
    · simp only [VR] at hy
      obtain ⟨rfl, _⟩ := hy
      cases op <;> simp [eqGuard] <;> cases c <;> simp
    · simp only [VR] at hx
      obtain ⟨rfl, _⟩ := hx
      cases op <;> simp [eqGuard]
    · simp at h
  · split at h
    · simp only [VR] at hy
      obtain ⟨rfl, _⟩ := hy
      cases op <;> simp [eqGuard] <;> cases c <;> simp
    · simp at h
  · split at h
    · simp only [VR] at hy
      obtain ⟨rfl, _⟩ := hy
      cases op <;> simp [eqGuard] <;> cases c <;> simp
    · simp at h
  all_goals first
    | (split at h
       · rename_i xs ys
         rw [Option.bind_eq_some_iff] at h
         obtain ⟨ks, h1, h2⟩ := h
         simp only [VR] at hx hy
         obtain ⟨vs, rfl, hx⟩ := hx
         obtain ⟨us, rfl, hy⟩ := hy
         exact run_eqGuard_agg w op t xo yo vs us (eqGuardType_sound 20 t ks h1 _ hd)
       · simp at h)
    | simp at h

def nonum : Value → Bool
  | .int .. | .float .. | .complex .. | .string .. => false
  | _ => true
theorem binOp_eql {t : TypeId} {c d : Value} (h : nonum d = true) : Go.binOp .eql t c d = (do let b ← Op.equal t c d; Pure.pure (.bool b)) := by
  cases d <;> simp [nonum] at h <;> cases c <;> rfl
theorem binOp_neq {t : TypeId} {c d : Value} (h : nonum d = true) : Go.binOp .neq t c d = (do let b ← Op.equal t c d; Pure.pure (.bool (!b))) := by
  cases d <;> simp [nonum] at h <;> cases c <;> rfl
theorem aeq_nonum {t : TypeId} {x y : V} {c d : Value} {b : Bool} (h : aeq P t x y = some b) (hx : VR β I x c) (hy : VR β I y d) : nonum d = true := by
  unfold aeq at h
  split at h
  · split at h
    · simp only [VR] at hy; obtain ⟨rfl, _⟩ := hy; rfl
    · simp at h
  · split at h
    · simp only [VR] at hy; obtain ⟨rfl, _⟩ := hy; rfl
    · unfold nilP at h
      split at h <;> simp at h <;> simp only [VR] at hy
      · obtain ⟨rfl, _⟩ := hy; rfl
      · obtain ⟨x, _, rfl⟩ := hy; rfl
      · obtain ⟨b, o, rfl, _⟩ := hy; rfl
    · simp at h
  · split at h
    · simp only [VR] at hy; obtain ⟨rfl, _⟩ := hy; rfl
    · simp at h
  · split at h
    · simp only [VR] at hy; obtain ⟨rfl, _⟩ := hy; rfl
    · simp at h
  all_goals first
    | (split at h
       · simp only [VR] at hy; obtain ⟨vs, rfl, _⟩ := hy; rfl
       · simp at h)
    | simp at h

theorem depth_ge (P : Program) : 20 ≤ P.depth := by unfold Program.depth Made.depth; omega

theorem abin_sound {op : BinOp} {t : TypeId} {x y v : V} {c d : Value} (h : abin P op t x y = some v) (hx : VR β I x c) (hy : VR β I y d) (xo yo : Operand) (w : World) :
    ∃ r, (do eqGuard op t xo yo c d; Go.binOp op t c d : Sem Value).run P w = .ok r w ∧ VR β I v r := by
  have guard_int : ∀ (k k' : IntKind) (a b : Int), (eqGuard op t xo yo (.int k a) (.int k' b)).run P w = .ok () w := by intro k k' a b; cases op <;> simp [eqGuard]
  have guard_str : ∀ (a b : ByteArray), (eqGuard op t xo yo (.string a) (.string b)).run P w = .ok () w := by intro a b; cases op <;> simp [eqGuard]
  unfold abin at h
  split at h
  · simp only [VR] at hx hy
    obtain ⟨rfl, _⟩ := hx
    obtain ⟨rfl, _⟩ := hy
    simp only [Option.map_eq_some_iff] at h
    obtain ⟨r, h1, rfl⟩ := h
    obtain ⟨h2, h3⟩ := shiftBin_sound (P := P) t h1 w
    exact ⟨r, by simp only [Sem.run_bind, guard_int, Result.andThen_ok]; exact h2, by simp only [VR]; exact ⟨trivial, h3⟩⟩
  · simp only [VR] at hx hy
    obtain ⟨rfl, _⟩ := hx
    obtain ⟨rfl, _⟩ := hy
    simp only [Option.map_eq_some_iff] at h
    obtain ⟨r, h1, rfl⟩ := h
    obtain ⟨h2, h3⟩ := shiftBin_sound (P := P) t h1 w
    exact ⟨r, by simp only [Sem.run_bind, guard_int, Result.andThen_ok]; exact h2, by simp only [VR]; exact ⟨trivial, h3⟩⟩
  · simp only [VR] at hx hy
    obtain ⟨rfl, _⟩ := hx
    obtain ⟨rfl, _⟩ := hy
    split at h
    · rename_i hk
      subst hk
      simp only [Option.map_eq_some_iff] at h
      obtain ⟨r, h1, rfl⟩ := h
      obtain ⟨h2, h3⟩ := intBin_sound (P := P) t h1 w
      exact ⟨r, by simp only [Sem.run_bind, guard_int, Result.andThen_ok]; exact h2, by simp only [VR]; exact ⟨trivial, h3⟩⟩
    · simp at h
  · simp only [VR] at hx hy
    obtain ⟨rfl, _⟩ := hx
    obtain ⟨rfl, _⟩ := hy
    simp only [Option.map_eq_some_iff] at h
    obtain ⟨r, h1, rfl⟩ := h
    obtain ⟨h2, h3⟩ := strBin_sound (P := P) t h1 w
    exact ⟨r, by simp only [Sem.run_bind, guard_str, Result.andThen_ok]; exact h2, by simp only [VR]; exact ⟨trivial, h3⟩⟩
  · rename_i hni hns
    simp only [Option.map_eq_some_iff] at h
    obtain ⟨b, h1, rfl⟩ := h
    have h2 := aeq_sound h1 hx hy w
    have h3 := aeq_guard (op := .eql) h1 hx hy (depth_ge P) xo yo w
    refine ⟨.bool b, ?_, by simp [VR, scalar]⟩
    simp only [Sem.run_bind, h3, Result.andThen_ok]
    rw [binOp_eql (aeq_nonum h1 hx hy)]
    simp [h2]
  · rename_i hni hns
    simp only [Option.map_eq_some_iff] at h
    obtain ⟨b, h1, rfl⟩ := h
    have h2 := aeq_sound h1 hx hy w
    have h3 := aeq_guard (op := .neq) h1 hx hy (depth_ge P) xo yo w
    refine ⟨.bool (!b), ?_, by simp [VR, scalar]⟩
    simp only [Sem.run_bind, h3, Result.andThen_ok]
    rw [binOp_neq (aeq_nonum h1 hx hy)]
    simp [h2]
  · simp at h

end
end Go.Ai
