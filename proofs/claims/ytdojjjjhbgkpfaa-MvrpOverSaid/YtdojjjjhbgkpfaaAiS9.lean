/- An interpreter of the language over data, and the proof that what it answers is what the machine does; no condition. -/
import Derived.Test.YtdojjjjhbgkpfaaAiS8
set_option linter.unusedVariables false
set_option linter.unusedSimpArgs false
namespace Go.Ai
section
variable {P : Program} {β : Nat → Option BV} {I : Imm} {w : World} {σ : List Blk}
def EvR (β : Nat → Option BV) (I : Imm) (ev : Operand → V) (ρ : Operand → Value) : Prop := ∀ x, VR β I (ev x) (ρ x)
theorem EvR.map {ev : Operand → V} {ρ : Operand → Value} (h : EvR β I ev ρ) : ∀ l : List Operand, VRs β I (l.map ev) (l.map ρ)
  | [] => by simp [VRs]
  | x :: l => by simp only [List.map_cons, VRs]; exact ⟨h x, EvR.map h l⟩
theorem EvR.opt {ev : Operand → V} {ρ : Operand → Value} (h : EvR β I ev ρ) : ∀ o : Option Operand, OptR β I (o.map ev) (o.map ρ)
  | none => trivial
  | some x => h x
/-- What an operation comes to. -/
def OpGives (P : Program) (s : Sem Next) (β : Nat → Option BV) (I : Imm) (w : World) (v : V) (σ' : List Blk) (mv : List Nat) : Prop :=
  ∃ nx w' β' I', s.run P w = .ok nx w' ∧ ((∃ c, nx = .value c ∧ VR β' I' v c) ∨ (nx = .skip ∧ v = .undef)) ∧ Inv β' I' σ' w' ∧ Step β I w β' I' w' ∧ Keeps mv β β'
theorem Gives.op {s : Sem Value} {v : V} {σ' : List Blk} {mv : List Nat} (h : Gives P s β I w v σ' mv) : OpGives P (do let x ← s; Pure.pure (.value x)) β I w v σ' mv := by
  obtain ⟨c, w', β', I', h1, h2, h3, h4, h5⟩ := h
  exact ⟨.value c, w', β', I', by simp [h1], .inl ⟨c, rfl, h2⟩, h3, h4, h5⟩
theorem OpGives.same (hi : Inv β I σ w) {s : Sem Value} {v : V} (h : ∃ c, s.run P w = .ok c w ∧ VR β I v c) : OpGives P (do let x ← s; Pure.pure (.value x)) β I w v σ [] := (Gives.same hi h).op
theorem VRs.one {v : V} {cl : List Value} (h : VRs β I [v] cl) : ∃ c, cl = [c] ∧ VR β I v c := by
  match cl, h with
  | [c], k => simp only [VRs] at k; exact ⟨c, rfl, k.1⟩
theorem VRs.two {v u : V} {cl : List Value} (h : VRs β I [v, u] cl) : ∃ c d, cl = [c, d] ∧ VR β I v c ∧ VR β I u d := by
  match cl, h with
  | [c, d], k => simp only [VRs] at k; exact ⟨c, d, rfl, k.1, k.2.1⟩
theorem abuiltin_sound (hi : Inv β I σ w) {ev : Operand → V} {ρ : Operand → Value} (hev : EvR β I ev ρ) {b : Builtin} {ts : Array TypeId} {args : Array Operand} {ty : TypeId} {cs : Array Bool} {v : V} {σ' : List Blk} {mv : List Nat}
    (h : abuiltin P σ b ts.toList (args.toList.map ev) = some (v, σ', mv)) : OpGives P (Go.builtin b ts ty cs (args.map ρ)) β I w v σ' mv := by
  have hargs := hev.map args.toList
  obtain ⟨l⟩ := args
  obtain ⟨ts⟩ := ts
  simp only at h hargs
  simp only [List.map_toArray]
  generalize hvs : l.map ev = vs at h hargs
  generalize hcs : l.map ρ = cl at hargs
  unfold abuiltin at h
  split at h
  · simp only [Option.map_eq_some_iff, Prod.mk.injEq] at h
    obtain ⟨n, h1, rfl, rfl, rfl⟩ := h
    obtain ⟨c, rfl, hx⟩ := hargs.one
    exact OpGives.same hi ⟨_, alen_sound rfl h1 hx w, by simp [VR, scalar]⟩
  · simp only [Option.map_eq_some_iff, Prod.mk.injEq] at h
    obtain ⟨⟨v', σ1, mv'⟩, h1, rfl, rfl, rfl⟩ := h
    obtain ⟨c, d, rfl, hc, hd⟩ := hargs.two
    exact (aappend_sound hi h1 hc hd).op
  · simp only [Option.map_eq_some_iff, Prod.mk.injEq] at h
    obtain ⟨⟨v', σ1⟩, h1, rfl, rfl, rfl⟩ := h
    obtain ⟨c, d, rfl, hc, hd⟩ := hargs.two
    exact (acopy_sound hi h1 hc hd).op
  · simp only [Option.map_eq_some_iff, Prod.mk.injEq] at h
    obtain ⟨⟨v', σ1⟩, h1, rfl, rfl, rfl⟩ := h
    obtain ⟨c, rfl, hc⟩ := hargs.one
    exact (aclear_sound hi h1 hc).op
  · simp only [Option.map_eq_some_iff, Prod.mk.injEq] at h
    obtain ⟨v', h1, rfl, rfl, rfl⟩ := h
    cases vs with
    | nil => simp [minmax] at h1
    | cons x vs =>
      cases cl with
      | nil => simp [VRs] at hargs
      | cons c cl =>
        simp only [VRs] at hargs
        obtain ⟨r, h2, h3⟩ := minmax_sound (g := Builtin.min2) (P := P) (w := w) (fun k k' a b w => by simp [Builtin.min2]) vs h1 hargs.1 hargs.2
        exact OpGives.same hi ⟨r, by simpa [Builtin.min_] using h2, h3⟩
  · simp only [Option.map_eq_some_iff, Prod.mk.injEq] at h
    obtain ⟨v', h1, rfl, rfl, rfl⟩ := h
    cases vs with
    | nil => simp [minmax] at h1
    | cons x vs =>
      cases cl with
      | nil => simp [VRs] at hargs
      | cons c cl =>
        simp only [VRs] at hargs
        obtain ⟨r, h2, h3⟩ := minmax_sound (g := Builtin.max2) (P := P) (w := w) (fun k k' a b w => by simp [Builtin.max2]) vs h1 hargs.1 hargs.2
        exact OpGives.same hi ⟨r, by simpa [Builtin.max_] using h2, h3⟩
  · simp at h
theorem parts_rel {ev : Operand → V} {ρ : Operand → Value} (hev : EvR β I ev ρ) (parts : Array (Nat × Operand)) :
    (parts.toList.map fun (i, x) => (i, ev x)).map (·.1) = (parts.map fun (i, x) => (i, ρ x)).toList.map (·.1) ∧ VRs β I ((parts.toList.map fun (i, x) => (i, ev x)).map (·.2)) ((parts.map fun (i, x) => (i, ρ x)).toList.map (·.2)) := by
  obtain ⟨l⟩ := parts
  simp only [List.map_toArray]
  induction l with
  | nil => simp [VRs]
  | cons p l ih =>
    obtain ⟨i, x⟩ := p
    simp only [List.map_cons, List.cons.injEq, VRs]
    exact ⟨⟨trivial, ih.1⟩, hev x, ih.2⟩
theorem aop_sound (hi : Inv β I σ w) {ev : Operand → V} {ρ : Operand → Value} (hev : EvR β I ev ρ) {o : Oper} {v : V} {σ' : List Blk} {mv : List Nat} (h : aop P ev σ o = some (v, σ', mv)) : OpGives P (execOp ρ o) β I w v σ' mv := by
  have pure_op : ∀ {x : V} {c : Value}, VR β I x c → OpGives P (Pure.pure (Next.value c)) β I w x σ [] := fun {x c} hx =>
    ⟨.value c, w, β, I, rfl, .inl ⟨c, rfl, hx⟩, hi, Step.refl _ _ _, Keeps.refl _⟩
  unfold aop at h
  unfold execOp
  cases ho : o.op with
  | move x => simp only [ho] at h ⊢; simp only [Option.some.injEq, Prod.mk.injEq] at h; obtain ⟨rfl, rfl, rfl⟩ := h; exact pure_op (hev x)
  | assign x => simp only [ho] at h ⊢; simp only [Option.some.injEq, Prod.mk.injEq] at h; obtain ⟨rfl, rfl, rfl⟩ := h; exact pure_op (hev x)
  | pick c a b =>
    simp only [ho] at h ⊢
    split at h
    · rename_i t hc
      simp only [Option.some.injEq, Prod.mk.injEq] at h
      obtain ⟨rfl, rfl, rfl⟩ := h
      have hcv := hev c
      rw [hc] at hcv
      simp only [VR] at hcv
      refine ⟨.value (if t then ρ a else ρ b), w, β, I, by simp [hcv.1, asBool], .inl ⟨_, rfl, ?_⟩, hi, Step.refl _ _ _, Keeps.refl _⟩
      cases t
      · exact hev b
      · exact hev a
    · simp at h
  | alloc e =>
    simp only [ho] at h ⊢
    simp only [Option.map_eq_some_iff, Prod.mk.injEq] at h
    obtain ⟨cells, h1, rfl, rfl, rfl⟩ := h
    exact (aalloc_sound hi h1 _).op
  | box e x =>
    simp only [ho] at h ⊢
    simp only [Option.map_eq_some_iff, Prod.mk.injEq] at h
    obtain ⟨cells, h1, rfl, rfl, rfl⟩ := h
    exact (abox_sound hi h1 (hev x)).op
  | build t parts =>
    simp only [ho] at h ⊢
    simp only [Option.map_eq_some_iff, Prod.mk.injEq] at h
    obtain ⟨v', h1, rfl, rfl, rfl⟩ := h
    obtain ⟨e1, e2⟩ := parts_rel hev parts
    exact OpGives.same hi (abuild_sound h1 e1 e2 w)
  | buildSlice t len parts =>
    simp only [ho] at h ⊢
    simp only [Option.map_eq_some_iff, Prod.mk.injEq] at h
    obtain ⟨⟨v', σ1⟩, h1, rfl, rfl, rfl⟩ := h
    obtain ⟨e1, e2⟩ := parts_rel hev parts
    exact (abuildSlice_sound hi h1 e1 e2).op
  | load t a =>
    simp only [ho] at h ⊢
    simp only [Option.map_eq_some_iff, Prod.mk.injEq] at h
    obtain ⟨v', h1, rfl, rfl, rfl⟩ := h
    exact OpGives.same hi (aload_sound hi h1 (hev a))
  | store t a x =>
    simp only [ho] at h ⊢
    simp only [Option.map_eq_some_iff, Prod.mk.injEq] at h
    obtain ⟨σ1, h1, rfl, rfl, rfl⟩ := h
    obtain ⟨w', I', h2, h3, h4⟩ := astore_sound hi h1 (hev a) (hev x)
    exact ⟨.skip, w', β, I', by simp [h2], .inr ⟨rfl, rfl⟩, h3, h4, Keeps.refl _⟩
  | nilCheck x =>
    simp only [ho] at h ⊢
    have hx := hev x
    cases he : ev x with
    | ptr t i o' =>
      simp only [he, Option.some.injEq, Prod.mk.injEq] at h
      obtain ⟨rfl, rfl, rfl⟩ := h
      rw [he] at hx
      have hx' := hx
      simp only [VR] at hx
      obtain ⟨y, _, e⟩ := hx
      rw [e] at hx' ⊢
      exact pure_op hx'
    | iref cs =>
      simp only [he, Option.some.injEq, Prod.mk.injEq] at h
      obtain ⟨rfl, rfl, rfl⟩ := h
      rw [he] at hx
      have hx' := hx
      simp only [VR] at hx
      obtain ⟨b, o', e, _⟩ := hx
      rw [e] at hx' ⊢
      exact pure_op hx'
    | clo fn a b =>
      cases fn with
      | func f =>
        simp only [he, Option.some.injEq, Prod.mk.injEq] at h
        obtain ⟨rfl, rfl, rfl⟩ := h
        rw [he] at hx
        have hx' := hx
        simp only [VR] at hx
        obtain ⟨fv, cv, e, _⟩ := hx
        rw [e] at hx' ⊢
        exact pure_op hx'
      | _ => simp [he] at h
    | _ => simp [he] at h
  | binOp op t x y yt =>
    simp only [ho] at h ⊢
    simp only [Option.map_eq_some_iff, Prod.mk.injEq] at h
    obtain ⟨v', h1, rfl, rfl, rfl⟩ := h
    exact OpGives.same hi (abin_sound h1 (hev x) (hev y) x y w)
  | unOp op t x =>
    simp only [ho] at h ⊢
    simp only [Option.map_eq_some_iff, Prod.mk.injEq] at h
    obtain ⟨v', h1, rfl, rfl, rfl⟩ := h
    exact OpGives.same hi (aun_sound h1 (hev x) w)
  | convert s d x =>
    simp only [ho] at h ⊢
    simp only [Option.map_eq_some_iff, Prod.mk.injEq] at h
    obtain ⟨v', h1, rfl, rfl, rfl⟩ := h
    by_cases hn : ∀ e s', P.underlying d = some (.slice e) → ev x ≠ .s (.string s')
    · exact OpGives.same hi (aconv_sound hi h1 (hev x) hn)
    · simp only [Classical.not_forall, Decidable.not_not] at hn
      obtain ⟨e, s', hd, he⟩ := hn
      have he := Classical.not_not.1 he
      have hx := hev x
      rw [he] at hx h1
      simp only [VR] at hx
      unfold aconv at h1
      split at h1
      · simp at h1
      · rename_i sd hs
        simp only [hd] at h1
        split at h1
        · rename_i hb
          simp at h1
          subst h1
          rw [hx.1]
          exact (bytes_sound hi hs hd (isByte_und hb) s').op
        · simp at h1
  | sliceToArrayPointer arr x =>
    simp only [ho] at h ⊢
    simp only [Option.map_eq_some_iff, Prod.mk.injEq] at h
    obtain ⟨v', h1, rfl, rfl, rfl⟩ := h
    exact OpGives.same hi (aarr_sound h1 (hev x) w)
  | makeFunc fn first captured =>
    simp only [ho] at h ⊢
    simp only [Option.some.injEq, Prod.mk.injEq] at h
    obtain ⟨rfl, rfl, rfl⟩ := h
    refine OpGives.same hi ⟨.func fn (first.map ρ) (captured.map ρ), rfl, ?_⟩
    simp only [VR]
    exact ⟨_, _, rfl, by simpa using hev.map first.toList, by simpa using hev.map captured.toList⟩
  | makeSlice t l c =>
    simp only [ho] at h ⊢
    simp only [Option.map_eq_some_iff, Prod.mk.injEq] at h
    obtain ⟨⟨v', σ1⟩, h1, rfl, rfl, rfl⟩ := h
    exact (amakeSlice_sound hi h1 (hev l) (hev c)).op
  | slice t x lo hg mx =>
    simp only [ho] at h ⊢
    simp only [Option.map_eq_some_iff, Prod.mk.injEq] at h
    obtain ⟨v', h1, rfl, rfl, rfl⟩ := h
    exact OpGives.same hi (aslice_sound hi h1 (hev x) (hev.opt lo) (hev.opt hg) (hev.opt mx))
  | fieldAddr s x f =>
    simp only [ho] at h ⊢
    have hx := hev x
    split at h
    · rename_i off u t i o' hf he
      split at h
      · simp at h
      · rename_i hz
        simp only [Option.some.injEq, Prod.mk.injEq] at h
        obtain ⟨rfl, rfl, rfl⟩ := h
        rw [he] at hx
        simp only [VR] at hx
        obtain ⟨y, hy, e⟩ := hx
        rw [e]
        exact OpGives.same hi ⟨_, fieldAddr_sound hf hz _ _ w, by simp only [VR]; exact ⟨y, hy, by rw [Nat.add_assoc]⟩⟩
    · rename_i off u cs hf he
      split at h
      · simp at h
      · rename_i hz
        simp only [Option.some.injEq, Prod.mk.injEq] at h
        obtain ⟨rfl, rfl, rfl⟩ := h
        rw [he] at hx
        simp only [VR] at hx
        obtain ⟨b, o', e, hcs⟩ := hx
        rw [e]
        exact OpGives.same hi ⟨_, fieldAddr_sound hf hz _ _ w, by simp only [VR]; exact ⟨b, _, rfl, hcs.drop off⟩⟩
    · simp at h
  | field t x f =>
    simp only [ho] at h ⊢
    have hx := hev x
    split at h
    · rename_i off u cs hf he
      simp only [Option.map_eq_some_iff, Prod.mk.injEq] at h
      obtain ⟨v', h1, rfl, rfl, rfl⟩ := h
      rw [he] at hx
      exact OpGives.same hi (field_sound hf h1 hx w)
    · simp at h
  | indexAddr t x ix =>
    simp only [ho] at h ⊢
    simp only [Option.map_eq_some_iff, Prod.mk.injEq] at h
    obtain ⟨v', h1, rfl, rfl, rfl⟩ := h
    exact OpGives.same hi (aindexAddr_sound hi h1 (hev x) (hev ix) w)
  | index t x ix =>
    simp only [ho] at h ⊢
    simp only [Option.map_eq_some_iff, Prod.mk.injEq] at h
    obtain ⟨v', h1, rfl, rfl, rfl⟩ := h
    exact OpGives.same hi (aindex_sound h1 (hev x) (hev ix) w)
  | extract t i =>
    simp only [ho] at h ⊢
    have hx := hev t
    split at h
    · rename_i vs he
      simp only [Option.map_eq_some_iff, Prod.mk.injEq] at h
      obtain ⟨v', h1, rfl, rfl, rfl⟩ := h
      rw [he] at hx
      simp only [VR] at hx
      obtain ⟨cs, e, hcs⟩ := hx
      obtain ⟨c, hc, hv⟩ := hcs.get h1
      have : cs[i]? = some c := by rw [← Array.getElem?_toList]; exact hc
      exact OpGives.same hi ⟨c, by rw [e]; simp [Instr.extract, this], hv⟩
    · simp at h
  | call c =>
    simp only [ho] at h ⊢
    split at h
    · rename_i b hb
      have := abuiltin_sound (ty := o.type) (cs := c.args.map fun | .const _ => true | _ => false) hi hev h
      obtain ⟨nx, w', β', I', h1, h2⟩ := this
      exact ⟨nx, w', β', I', by simp only [resolve, hb, invoke, Sem.run_bind, Sem.run_pure, Result.andThen_ok]; exact h1, h2⟩
    · simp at h
  | _ => simp [ho] at h
end
end Go.Ai
