/- A part of an interpreter of the language over data, and the proof that what it answers is what the machine does; no condition. -/
import Derived.Test.YtgppcipkllkgbaaAiS3
set_option linter.unusedVariables false
set_option linter.unusedSimpArgs false
namespace Go.Ai

section
variable {P : Program} {β : Nat → Option BV} {I : Imm} {w : World} {σ : List Blk}

/-! ### Structs and arrays built -/
theorem setFold : ∀ (vs : List Value) (k off : Nat) (cells : Array Value), off + k + vs.length ≤ cells.size →
    ((vs.zipIdx k).foldl (fun cs (x : Value × Nat) => cs.setIfInBounds (off + x.2) x.1) cells).toList = setL cells.toList (off + k) vs
  | [], k, off, cells, h => by simp [setL]
  | v :: vs, k, off, cells, h => by
    simp only [List.zipIdx_cons, List.foldl_cons]
    have ih := setFold vs (k + 1) off (cells.setIfInBounds (off + k) v) (by simp at h ⊢; omega)
    rw [ih]
    simp only [Array.toList_setIfInBounds, setL]
    have hlt : off + k < cells.toList.length := by simp at h ⊢; omega
    rw [show off + (k + 1) = off + k + 1 by omega]
    rw [List.take_succ_eq_append_getElem (by simpa using hlt)]
    simp only [List.getElem_set_self]
    rw [List.take_set_of_le (Nat.le_refl _), List.drop_set_of_lt (by omega)]
    simp only [List.length_cons, List.append_assoc, List.cons_append, List.nil_append]
    congr 3
    congr 1
    omega

theorem fill_sound {pl : Nat → Option (Nat × Nat)} {pl' : Nat → Option (Nat × Nat)} (hpl : ∀ i o s, pl i = some (o, s) → pl' i = some (o, s)) : ∀ {parts : List (Nat × V)} {cparts : List (Nat × Value)} {cells out : List V} {cs : Array Value},
    afill pl cells parts = some out → parts.map (·.1) = cparts.map (·.1) → VRs β I (parts.map (·.2)) (cparts.map (·.2)) → VRs β I cells cs.toList →
    ∃ r, Instr.fill pl' cs cparts = some r ∧ VRs β I out r.toList
  | [], [], cells, out, cs, h, _, _, hc => by
    simp [afill] at h
    subst h
    exact ⟨cs, rfl, hc⟩
  | (i, v) :: parts, (j, c) :: cparts, cells, out, cs, h, hi, hv, hc => by
    simp only [List.map_cons, List.cons.injEq] at hi
    simp only [List.map_cons, VRs] at hv
    obtain ⟨rfl, hi⟩ := hi
    simp only [afill] at h
    split at h
    · rename_i off size vs h1 h2
      split at h
      · rename_i hle
        have hvc := hv.1.cells h2
        have hl := hvc.length
        have hcl := hc.length
        have hcs : c.cells.size = size := by rw [← Array.length_toList, ← hl]; exact hle.1
        have hfold : ((c.cells.zipIdx).foldl (fun cs (x : Value × Nat) => cs.setIfInBounds (off + x.2) x.1) cs).toList = setL cs.toList off c.cells.toList := by
          have h0 := setFold c.cells.toList 0 off cs (by simp at hcl ⊢; omega)
          rw [Nat.add_zero] at h0
          rw [← h0, ← Array.foldl_toList]
          simp
        have hnew : VRs β I (setL cells off vs) ((c.cells.zipIdx).foldl (fun cs (x : Value × Nat) => cs.setIfInBounds (off + x.2) x.1) cs).toList := by
          rw [hfold]; exact hc.setL hvc off
        obtain ⟨r, h3, h4⟩ := fill_sound hpl h hi hv.2 hnew
        refine ⟨r, ?_, h4⟩
        simp only [Instr.fill, hpl _ _ _ h1]
        rw [if_neg]
        · exact h3
        · simp [hcs]
          simp at hcl
          omega
      · simp at h
    · simp at h
  | [], _ :: _, _, _, _, _, hi, _, _ => by simp at hi
  | _ :: _, [], _, _, _, _, hi, _, _ => by simp at hi

theorem run_places' (w : World) : ∀ (fs : List Field), (∀ f ∈ fs, known P f.type = true) → (fs.mapM fun f => Prod.mk f.offset <$> sizeOf f.type).run P w = .ok (fs.map fun f => (f.offset, P.cellsOf f.type)) w
  | [], _ => by simp
  | f :: fs, h => by
    have hs := known_siz (h f (by simp)) w
    simp [List.mapM_cons, hs, run_places' w fs fun g hg => h g (by simp [hg])]

theorem zeroV_run {t : TypeId} {v : V} (h : zeroV P t = some v) (w : World) : ∃ c, (zeroValue t).run P w = .ok c w ∧ VR β I v c ∧ (P.info? t).bind (·.zero) = some c := by
  unfold zeroV at h
  rw [Option.bind_eq_some_iff] at h
  obtain ⟨c, h1, h2⟩ := h
  refine ⟨c, ?_, ofVal_sound c h2, h1⟩
  cases hi : P.info? t with
  | none => simp [hi] at h1
  | some i =>
    simp [hi] at h1
    simp [zeroValue, typeInfo, hi, h1]

theorem abuild_sound {t : TypeId} {parts : List (Nat × V)} {cparts : Array (Nat × Value)} {v : V} (h : abuild P t parts = some v) (hi : parts.map (·.1) = cparts.toList.map (·.1)) (hv : VRs β I (parts.map (·.2)) (cparts.toList.map (·.2))) (w : World) :
    ∃ r, (Instr.build t cparts).run P w = .ok r w ∧ VR β I v r := by
  unfold abuild at h
  split at h
  · rename_i zero fs hz hu
    split at h
    · rename_i hk
      simp only [Option.map_eq_some_iff] at h
      obtain ⟨out, h1, rfl⟩ := h
      obtain ⟨c, h2, h3, _⟩ := zeroV_run (β := β) (I := I) hz w
      simp only [VR] at h3
      obtain ⟨vs, rfl, h3⟩ := h3
      obtain ⟨r, h4, h5⟩ := fill_sound (pl' := fun x => (fs.map fun f => (f.offset, P.cellsOf f.type))[x]?) (fun i o s hp => by
        simp only [fieldOf, hu] at hp
        simp only [Option.map_map, Option.map_eq_some_iff] at hp
        obtain ⟨f, hf, he⟩ := hp
        simp at he
        simp [hf, he]) h1 hi hv h3
      refine ⟨.agg r, ?_, by simp only [VR]; exact ⟨r, rfl, h5⟩⟩
      have hpl := run_places' (P := P) w fs.toList (fun f hf => by
        rw [Array.all_eq_true_iff_forall_mem] at hk
        exact hk f (by simpa using hf))
      have h4' : Instr.fill (fun x => Option.map (fun f => (f.offset, P.cellsOf f.type)) fs[x]?) vs cparts.toList = some r := by
        rw [← h4]
        congr 1
        funext x
        simp
      simp only [Instr.build, Sem.run_bind, h2, Result.andThen_ok, run_und hu, Value.cells, Array.mapM_eq_mapM_toList, Sem.run_map, bind_pure_comp, hpl]
      simp [h4']
    · simp at h
  · rename_i zero n e hz hu
    split at h
    · rename_i hk
      simp only [Option.map_eq_some_iff] at h
      obtain ⟨out, h1, rfl⟩ := h
      obtain ⟨c, h2, h3, _⟩ := zeroV_run (β := β) (I := I) hz w
      simp only [VR] at h3
      obtain ⟨vs, rfl, h3⟩ := h3
      obtain ⟨r, h4, h5⟩ := fill_sound (pl' := fun i => some (i * P.cellsOf e, P.cellsOf e)) (fun i o s hp => hp) h1 hi hv h3
      refine ⟨.agg r, ?_, by simp only [VR]; exact ⟨r, rfl, h5⟩⟩
      simp [Instr.build, h2, run_und hu, Value.cells, known_siz hk, h4]
    · simp at h
  · simp at h

/-! ### len, min, max -/
theorem alen_sound {t : TypeId} {x : V} {c : Value} {n : Int} {ts : Array TypeId} {ty : TypeId} (ht : ts[0]? = some t) (h : alen P σ t x = some n) (hx : VR β I x c) (w : World) :
    (Builtin.len_ ts ty #[c]).run P w = .ok (.int .i64 n) w := by
  unfold alen at h
  split at h
  · rename_i s hu; simp at h; subst h; simp only [VR] at hx; obtain ⟨rfl, _⟩ := hx
    simp [Builtin.len_, ht, run_und hu, goInt]
  · rename_i k e hu; simp at h; subst h
    simp [Builtin.len_, ht, run_und hu, goInt]
  · rename_i a hu
    split at h
    · rename_i n' e' hu2
      simp at h
      subst h
      simp [Builtin.len_, ht, run_und hu, run_und hu2, goInt]
    · simp at h
  · rename_i e z rows hu; simp at h; subst h; simp only [VR, TR] at hx; obtain ⟨a, cap, rfl, _⟩ := hx
    simp [Builtin.len_, ht, run_und hu, goInt]
  · rename_i e hu; simp at h; subst h; simp only [VR] at hx; obtain ⟨a, rfl⟩ := hx
    simp [Builtin.len_, ht, run_und hu, goInt]
  · rename_i e hu; simp at h; subst h; simp only [VR] at hx; obtain ⟨rfl, _⟩ := hx
    simp [Builtin.len_, ht, run_und hu, goInt]
  · rename_i e tag off len hu; simp at h; subst h; simp only [VR] at hx
    rcases hx with ⟨y, hy, ⟨_, rfl⟩ | ⟨rfl, _, a, rfl⟩⟩ | ⟨_, _, rfl, a, rfl⟩ <;> simp [Builtin.len_, ht, run_und hu, goInt]
  · rename_i e tag off len z hu; simp at h; subst h; simp only [VR] at hx; obtain ⟨y, a, cap, _, _, rfl, _⟩ := hx
    simp [Builtin.len_, ht, run_und hu, goInt]
  · simp at h

theorem minmax_sound {f : Int → Int → Int} {g : Value → Value → Sem Value} (hg : ∀ k k' a b (w : World), (g (.int k a) (.int k' b)).run P w = .ok (.int k (f a b)) w) :
    ∀ (l : List V) {cs : List Value} {v : V} {x : V} {c : Value}, minmax f (x :: l) = some v → VR β I x c → VRs β I l cs → ∃ r, (cs.foldlM g c).run P w = .ok r w ∧ VR β I v r
  | [], cs, v, x, c, h, hx, hl => by
    cases cs with
    | cons => simp [VRs] at hl
    | nil =>
      cases x <;> try (simp [minmax] at h; done)
      rename_i u
      cases u <;> simp [minmax] at h
      subst h
      exact ⟨c, by simp, hx⟩
  | y :: l, cs, v, x, c, h, hx, hl => by
    cases cs with
    | nil => simp [VRs] at hl
    | cons d cs =>
      simp only [VRs] at hl
      unfold minmax at h
      split at h
      · simp_all
      · rename_i k a k' b rest heq
        simp only [List.cons.injEq] at heq
        obtain ⟨rfl, rfl, rfl⟩ := heq
        split at h
        · rename_i hk
          simp only [VR] at hx
          obtain ⟨rfl, _⟩ := hx
          have hd := hl.1
          simp only [VR] at hd
          obtain ⟨rfl, _⟩ := hd
          simp only [List.foldlM_cons, Sem.run_bind, hg, Result.andThen_ok]
          exact minmax_sound hg _ h (by simp [VR, scalar]) hl.2
        · simp at h
      · simp at h

end
end Go.Ai
