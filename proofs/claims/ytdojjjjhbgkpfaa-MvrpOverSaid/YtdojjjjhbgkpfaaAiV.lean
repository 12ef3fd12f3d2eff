/- An interpreter of the language over data, and the proof that what it answers is what the machine does; no condition. -/
import Derived.Test.YtdojjjjhbgkpfaaAiC
set_option linter.unusedVariables false
set_option linter.unusedSimpArgs false
namespace Go.Ai
/-! ## Results that are told as less than they are -/
/-- An empty row in the place of nil, in a result. -/
def V.leT : V → V → Prop
  | .tuple a, .tuple b => V.les a b
  | u, v => V.le u v
theorem VR.leT {β : Nat → Option BV} {I : Imm} {u v : V} {c : Value} (h : u.leT v) (hx : VR β I u c) : VR β I v c := by
  unfold V.leT at h
  split at h
  · simp only [VR] at hx ⊢
    obtain ⟨vs, e, hx⟩ := hx
    exact ⟨vs, e, VRs.le _ h hx⟩
  · exact VR.le _ h hx
section
variable {P : Program}
theorem AC.leT {f : FuncId} {args : List V} {σ σ' : List Blk} {v : V} (h : AC P f args σ (fun r s mv => r.leT v ∧ s = σ' ∧ mv = [])) : AC P f args σ (fun r s mv => r = v ∧ s = σ' ∧ mv = []) :=
  ⟨h.1, fun β I w vs hi hv => (h.2 β I w vs hi hv).mono fun e w' ⟨c, β', I', r, s, mv, e1, ⟨h1, h2, h3⟩, h4, h5⟩ => ⟨c, β', I', v, s, mv, e1, ⟨rfl, h2, h3⟩, VR.leT h1 h4, h5⟩⟩
/-- The end of a function whose result nobody writes to, told as less than it is. -/
def kPostFW (P : Program) (rs : List ResultVar) (v : V) : Ctl → St → Prop := fun c S =>
  Done c ∧ ∃ u, ((ares P S.tm S.σ rs).bind fun vs => (frzV false S.σ (mkRes vs)).bind fun p => p.1.rn (keepF [])) = some u ∧ u.leT v
theorem kPostFW_post {rs : List ResultVar} {v : V} {c : Ctl} {S : St} (h : kPostFW P rs v c S) : Post P 0 rs (fun r s mv => r.leT v ∧ s = [] ∧ mv = []) c S := by
  obtain ⟨hd, u, h, hl⟩ := h
  simp only [Option.bind_eq_some_iff] at h
  obtain ⟨vs, h1, p, h2, h3⟩ := h
  refine ⟨hd, vs, h1, true, [], u, [], ?_, hl, rfl, ?_⟩
  · simp [expo, compact, h2, h3, selB]
  · simp
theorem kPostFW_ret (rs : List ResultVar) (v : V) (S : St) : kPostFW P rs v .ret S = ∃ u, ((ares P S.tm S.σ rs).bind fun vs => (frzV false S.σ (mkRes vs)).bind fun p => p.1.rn (keepF [])) = some u ∧ u.leT v := by simp [kPostFW, Done]
theorem kPostFW_normal (rs : List ResultVar) (v : V) (S : St) : kPostFW P rs v .normal S = ∃ u, ((ares P S.tm S.σ rs).bind fun vs => (frzV false S.σ (mkRes vs)).bind fun p => p.1.rn (keepF [])) = some u ∧ u.leT v := by simp [kPostFW, Done]
theorem AC_frozenW (hm : P.follows .mixedOrders = true) {f : FuncId} {fn : Func} {c : Code} {args : List V} {v : V} (hf : P.funcs[f]? = some fn) (hb : fn.body = some c) (hn : callable P f = true) (hok : codeOK fn.ntmps c = true) {n : Nat} (hN : fn.ntmps = n) (hargs : args.length ≤ n)
    (h : awp P c (kPostFW P fn.results.toList v) ⟨tms ((List.range args.length).zip args), [], []⟩) : AC P f args [] (eqR v) :=
  AC.leT (AC_walk hm hf hb hn hok (by omega) (awp_mono c (fun _ _ h => kPostFW_post h) h))
/-- Nil in the place of an empty row of one's own. -/
theorem AC.virt {f : FuncId} {args : List V} {σ : List Blk} {z : Nat} (h : AC P f args σ (oneS (fun _ : Bool => True) (fun b => if b then .s (.slice none 0 0) else .own σ.length 0 0) (fun b => if b then σ else σ ++ [.rows z [] false]))) :
    AC P f args σ (fun r s mv => r = .own σ.length 0 0 ∧ s = σ ++ [.rows z [] false] ∧ mv = []) := by
  refine ⟨h.1, fun β I w vs hi hv => (h.2 β I w vs hi hv).mono fun e w' ⟨c, β', I', r, s, mv, e1, ⟨hm, b, _, hr, hs⟩, h4, h5, h6, h7⟩ => ?_⟩
  cases b with
  | false =>
    simp only [Bool.false_eq_true, if_false] at hr hs
    exact ⟨c, β', I', r, s, mv, e1, ⟨hr, hs, hm⟩, h4, h5, h6, h7⟩
  | true =>
    simp only [if_true] at hr hs
    subst hr hs hm
    obtain ⟨_, hw⟩ := Weak.virt (tm := fun _ => .s (.slice none 0 0)) (σ := s) (mv := []) 0 z (.inl rfl)
    obtain ⟨β2, I2, i2, s2, v2, k2⟩ := hw β' I' w' h5
    refine ⟨c, β2, I2, .own s.length 0 0, s ++ [.rows z [] false], [], e1, ⟨rfl, rfl, rfl⟩, ?_, i2, h6.trans s2, h7.trans k2⟩
    have := v2 0 c h4
    simpa [upd] using this
/-- The end of a function over a heap, some of whose blocks may lie elsewhere. -/
def kPostKM (P : Program) (base : Nat) (kept : List Nat) (rs : List ResultVar) (v : V) (σ' : List Blk) (m : List Nat) : Ctl → St → Prop := fun c S =>
  Done c ∧ ((ares P S.tm S.σ rs).bind fun vs => compact base kept S.σ (mkRes vs)) = some (v, σ') ∧ S.mv.filter (· < base) = m
theorem kPostKM_ret (base : Nat) (kept : List Nat) (rs : List ResultVar) (v : V) (σ' : List Blk) (m : List Nat) (S : St) : kPostKM P base kept rs v σ' m .ret S = (((ares P S.tm S.σ rs).bind fun vs => compact base kept S.σ (mkRes vs)) = some (v, σ') ∧ S.mv.filter (· < base) = m) := by simp [kPostKM, Done]
theorem kPostKM_normal (base : Nat) (kept : List Nat) (rs : List ResultVar) (v : V) (σ' : List Blk) (m : List Nat) (S : St) : kPostKM P base kept rs v σ' m .normal S = (((ares P S.tm S.σ rs).bind fun vs => compact base kept S.σ (mkRes vs)) = some (v, σ') ∧ S.mv.filter (· < base) = m) := by simp [kPostKM, Done]
/-- A contract over just this heap. -/
theorem call_here {f : FuncId} {args : List V} {σ σ' : List Blk} {v : V} {m : List Nat} {K : V → List Blk → List Nat → Prop} (h : AC P f args σ (fun r s mv => r = v ∧ s = σ' ∧ mv = m)) (hk : K v σ' m) : AC P f args σ K :=
  AC.mono h fun r s mv ⟨h1, h2, h3⟩ => by subst h1 h2 h3; exact hk
/-- One of these values, each with the blocks that it keeps. -/
def kPostXK {X : Type} (P : Program) (base : Nat) (rs : List ResultVar) (kept : X → List Nat) (v : X → V) (σ' : X → List Blk) : Ctl → St → Prop := fun c S =>
  Done c ∧ ∃ x, ((ares P S.tm S.σ rs).bind fun vs => compact base (kept x) S.σ (mkRes vs)) = some (v x, σ' x) ∧ S.mv.filter (· < base) = []
/-- The end that one of them is. -/
def EndX {X : Type} (P : Program) (base : Nat) (rs : List ResultVar) (kept : X → List Nat) (v : X → V) (σ' : X → List Blk) (S : St) : Prop :=
  ∃ x, ((ares P S.tm S.σ rs).bind fun vs => compact base (kept x) S.σ (mkRes vs)) = some (v x, σ' x) ∧ S.mv.filter (· < base) = []
theorem kPostXK_ret {X : Type} (base : Nat) (rs : List ResultVar) (kept : X → List Nat) (v : X → V) (σ' : X → List Blk) (S : St) : kPostXK P base rs kept v σ' .ret S = EndX P base rs kept v σ' S := by simp [kPostXK, Done, EndX]
theorem kPostXK_normal {X : Type} (base : Nat) (rs : List ResultVar) (kept : X → List Nat) (v : X → V) (σ' : X → List Blk) (S : St) : kPostXK P base rs kept v σ' .normal S = EndX P base rs kept v σ' S := by simp [kPostXK, Done, EndX]
end
end Go.Ai
