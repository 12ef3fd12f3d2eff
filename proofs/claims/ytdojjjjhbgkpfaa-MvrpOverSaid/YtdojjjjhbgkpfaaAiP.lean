/- An interpreter of the language over data, and the proof that what it answers is what the machine does; no condition. -/
import Derived.Test.YtdojjjjhbgkpfaaMvpF
set_option linter.unusedVariables false
set_option linter.unusedSimpArgs false
namespace Go.Ai
/-! ## Calls that are handed parts of the heap -/
/-- The small heap's tags, placed in the great one. -/
def pl (ps : List Nat) (n t : Nat) : Nat := match ps[t]? with
  | some p => p
  | none => n + (t - ps.length)
/-- The small heap's blocks laid back; what is new lies behind. -/
def putAll (σ : List Blk) : List Nat → List Blk → List Blk
  | p :: ps, k :: ks => putAll (σ.set p k) ps ks
  | _, ks => σ ++ ks
theorem putAll_nil (σ ks : List Blk) : putAll σ [] ks = σ ++ ks := by cases ks <;> rfl
theorem putAll_cons (σ : List Blk) (p : Nat) (ps : List Nat) (k : Blk) (ks : List Blk) : putAll σ (p :: ps) (k :: ks) = putAll (σ.set p k) ps ks := rfl
theorem putAll_old : ∀ {ps : List Nat} {ks σ : List Blk} {t : Nat}, ps.length ≤ ks.length → t ∉ ps → t < σ.length → (putAll σ ps ks)[t]? = σ[t]?
  | [], ks, σ, t, _, _, ht => by rw [putAll_nil, List.getElem?_append_left ht]
  | p :: ps, [], σ, t, hl, _, _ => by simp at hl
  | p :: ps, k :: ks, σ, t, hl, hn, ht => by
    simp only [List.mem_cons, not_or] at hn
    rw [putAll_cons, putAll_old (by simpa using hl) hn.2 (by simpa using ht), List.getElem?_set_ne (Ne.symm hn.1)]
theorem putAll_at : ∀ {ps : List Nat} {ks σ : List Blk} {i p : Nat}, ps.length ≤ ks.length → ps.Nodup → (∀ p ∈ ps, p < σ.length) → ps[i]? = some p → (putAll σ ps ks)[p]? = ks[i]?
  | [], ks, σ, i, p, _, _, _, h => by simp at h
  | q :: ps, [], σ, i, p, hl, _, _, _ => by simp at hl
  | q :: ps, k :: ks, σ, 0, p, hl, hn, hb, h => by
    simp at h
    subst h
    have hq := hb q (by simp)
    rw [putAll_cons, putAll_old (by simpa using hl) (List.nodup_cons.1 hn).1 (by simpa using hq), List.getElem?_set_self hq]
    rfl
  | q :: ps, k :: ks, σ, i + 1, p, hl, hn, hb, h => by
    rw [putAll_cons]
    have := putAll_at (σ := σ.set q k) (ks := ks) (i := i) (p := p) (by simpa using hl) (List.nodup_cons.1 hn).2 (fun p hp => by simpa using hb p (by simp [hp])) (by simpa using h)
    simpa using this
theorem putAll_new : ∀ {ps : List Nat} {ks σ : List Blk} {t : Nat}, ps.length ≤ ks.length → σ.length ≤ t → (putAll σ ps ks)[t]? = ks[ps.length + (t - σ.length)]?
  | [], ks, σ, t, _, ht => by rw [putAll_nil, List.getElem?_append_right ht]; simp
  | p :: ps, [], σ, t, hl, _ => by simp at hl
  | p :: ps, k :: ks, σ, t, hl, ht => by
    rw [putAll_cons, putAll_new (by simpa using hl) (by simpa using ht)]
    simp only [List.length_set, List.length_cons]
    rw [show ps.length + 1 + (t - σ.length) = (ps.length + (t - σ.length)) + 1 by omega, List.getElem?_cons_succ]
section
variable {P : Program}
mutual
theorem VR.pull {β : Nat → Option BV} {I : Imm} (g : Nat → Nat) : ∀ (v : V) (c : Value), VR β I (v.mapT g) c ↔ VR (fun t => β (g t)) I v c
  | .s _, c => by simp [V.mapT, VR]
  | .sl _ _, c => by simp [V.mapT, VR]
  | .emp, c => by simp [V.mapT, VR]
  | .own _ _ _, c => by simp [V.mapT, VR]
  | .win _ _ _ _, c => by simp [V.mapT, VR]
  | .ptr _ _ _, c => by simp [V.mapT, VR]
  | .mref _, c => by simp [V.mapT, VR]
  | .iref _, c => by simp [V.mapT, VR]
  | .clo _ a b, c => by simp only [V.mapT, VR, VRs.pull g a, VRs.pull g b]
  | .agg a, c => by simp only [V.mapT, VR, VRs.pull g a]
  | .tuple a, c => by simp only [V.mapT, VR, VRs.pull g a]
  | .undef, c => by simp [V.mapT, VR]
theorem VRs.pull {β : Nat → Option BV} {I : Imm} (g : Nat → Nat) : ∀ (vs : List V) (cs : List Value), VRs β I (V.mapTs g vs) cs ↔ VRs (fun t => β (g t)) I vs cs
  | [], cs => by cases cs <;> simp [V.mapTs, VRs]
  | v :: vs, [] => by simp [V.mapTs, VRs]
  | v :: vs, c :: cs => by simp only [V.mapTs, VRs, VR.pull g v c, VRs.pull g vs cs]
end
theorem EsR.pull {β : Nat → Option BV} {I : Imm} (g : Nat → Nat) : ∀ (es : List (V × V × Nat)) (cs : List MapEntry), EsR β I (es.map fun e => (e.1.mapT g, e.2.1.mapT g, e.2.2)) cs ↔ EsR (fun t => β (g t)) I es cs
  | [], cs => by cases cs <;> simp [EsR]
  | e :: es, [] => by simp [EsR]
  | (k, v, n) :: es, c :: cs => by simp only [List.map_cons, EsR, VR.pull g k, VR.pull g v, EsR.pull g es cs]
theorem mapTs_length (g : Nat → Nat) : ∀ vs : List V, (V.mapTs g vs).length = vs.length
  | [] => rfl
  | v :: vs => by simp [V.mapTs, mapTs_length g vs]
theorem BlkR.pull {β : Nat → Option BV} {I : Imm} {w : World} (g : Nat → Nat) (t : Nat) (k : Blk) : BlkR β I w (g t) (k.mapT g) ↔ BlkR (fun t => β (g t)) I w t k := by
  cases k with
  | dead => simp [Blk.mapT, BlkR]
  | box cells ro => simp only [Blk.mapT, BlkR, VRs.pull g, mapTs_length]
  | rows z xs ro => simp only [Blk.mapT, BlkR]
  | capd z xs k => simp only [Blk.mapT, BlkR]
  | mp es c => simp only [Blk.mapT, BlkR, EsR.pull g]
  | it m since seen last =>
    simp only [Blk.mapT, BlkR]
    cases m with
    | none => simp
    | some m =>
      constructor
      · rintro ⟨b, h1, mv, h2, ⟨h3, _⟩ | ⟨tm, x, h3, h4, h5⟩⟩
        · cases h3
        · simp only [Option.map_some, Option.some.injEq] at h3
          subst h3
          exact ⟨b, h1, mv, h2, .inr ⟨m, x, rfl, h4, h5⟩⟩
      · rintro ⟨b, h1, mv, h2, ⟨h3, _⟩ | ⟨tm, x, h3, h4, h5⟩⟩
        · cases h3
        · cases h3
          exact ⟨b, h1, mv, h2, .inr ⟨g m, x, rfl, h4, h5⟩⟩
/-- An argument as it is handed over: what refers to the heap stays, what is a slice becomes data. -/
def frzA (σ : List Blk) : V → Option (V × List Blk)
  | .ptr t i o => some (.ptr t i o, σ)
  | .mref t => some (.mref t, σ)
  | .clo fn a b => some (.clo fn a b, σ)
  | v => frzV false σ v
def frzAs : List Blk → List V → Option (List V × List Blk)
  | σ, [] => some ([], σ)
  | σ, v :: vs => match frzA σ v with
    | some (v', σ1) => match frzAs σ1 vs with
      | some (vs', σ2) => some (v' :: vs', σ2)
      | none => none
    | none => none
theorem frzA_sound {β : Nat → Option BV} {I : Imm} {w : World} {σ σ' : List Blk} {v v' : V} {x : Value} (hi : Inv β I σ w) (h : frzA σ v = some (v', σ')) (hx : VR β I v x) : ∃ I', Inv β I' σ' w ∧ Step β I w β I' w ∧ VR β I' v' x := by
  unfold frzA at h
  split at h
  · simp at h; obtain ⟨rfl, rfl⟩ := h; exact ⟨I, hi, Step.refl _ _ _, hx⟩
  · simp at h; obtain ⟨rfl, rfl⟩ := h; exact ⟨I, hi, Step.refl _ _ _, hx⟩
  · simp at h; obtain ⟨rfl, rfl⟩ := h; exact ⟨I, hi, Step.refl _ _ _, hx⟩
  · obtain ⟨I', h1, h2, h3⟩ := frzV_sound v hi h hx
    exact ⟨I', h1, h2, h3 β⟩
theorem frzAs_sound {β : Nat → Option BV} {w : World} : ∀ {vs : List V} {I : Imm} {σ σ' : List Blk} {vs' : List V} {xs : List Value}, Inv β I σ w → frzAs σ vs = some (vs', σ') → VRs β I vs xs → ∃ I', Inv β I' σ' w ∧ Step β I w β I' w ∧ VRs β I' vs' xs
  | [], I, σ, σ', vs', xs, hi, h, hx => by
    simp [frzAs] at h; obtain ⟨rfl, rfl⟩ := h
    exact ⟨I, hi, Step.refl _ _ _, hx⟩
  | v :: vs, I, σ, σ', vs', xs, hi, h, hx => by
    cases xs with
    | nil => simp [VRs] at hx
    | cons x xs =>
      simp only [VRs] at hx
      simp only [frzAs] at h
      split at h
      · rename_i v1 σ1 h1
        split at h
        · rename_i vs1 σ2 h2
          simp at h
          obtain ⟨rfl, rfl⟩ := h
          obtain ⟨I1, i1, s1, t1⟩ := frzA_sound hi h1 hx.1
          obtain ⟨I2, i2, s2, t2⟩ := frzAs_sound i1 h2 (VRs.mono (Keeps.refl β) s1.mono hx.2)
          exact ⟨I2, i2, s1.trans s2, by simp only [VRs]; exact ⟨VR.mono (Keeps.refl β) s2.mono t1, t2⟩⟩
        · simp at h
      · simp at h
/-- These arguments may stand for those. -/
def FrzR (σ : List Blk) (args args1 : List V) (σ1 : List Blk) : Prop := ∀ β I w vs, Inv β I σ w → VRs β I args vs → ∃ I', Inv β I' σ1 w ∧ Step β I w β I' w ∧ VRs β I' args1 vs
theorem frzAs_R {σ σ1 : List Blk} {args args1 : List V} (h : frzAs σ args = some (args1, σ1)) : FrzR σ args args1 σ1 := fun β I w vs hi hv => frzAs_sound hi h hv
/-- As 'frzA'; of what can't be data nothing is told. -/
def frzZ (σ : List Blk) : V → V × List Blk
  | .clo _ _ _ => (.undef, σ)
  | v => match frzA σ v with
    | some p => p
    | none => (.undef, σ)
def frzZs : List Blk → List V → List V × List Blk
  | σ, [] => ([], σ)
  | σ, v :: vs => ((frzZ σ v).1 :: (frzZs (frzZ σ v).2 vs).1, (frzZs (frzZ σ v).2 vs).2)
/-- A contract over a small heap serves where that heap's blocks lie among others. -/
theorem AC_frame {f : FuncId} {args0 args args1 : List V} {σ0 σ σ1 : List Blk} {R : V → List Blk → List Nat → Prop} (h : AC P f args0 σ0 R) (hmv : ∀ r σ' mv, R r σ' mv → mv = [] ∧ σ0.length ≤ σ'.length) {ps : List Nat} (hn : ps.Nodup) (hl : ps.length = σ0.length)
    (hs : FrzR σ args args1 σ1) (hb : ∀ (i p : Nat) (k : Blk), ps[i]? = some p → σ0[i]? = some k → σ1[p]? = some (k.mapT (pl ps σ1.length))) (ha : V.les args1 (V.mapTs (pl ps σ1.length) args0)) :
    AC P f args σ (fun r2 σ2 mv2 => mv2 = [] ∧ ∃ r σ', R r σ' [] ∧ r2 = r.mapT (pl ps σ1.length) ∧ σ2 = putAll σ1 ps (σ'.map (Blk.mapT (pl ps σ1.length)))) := by
  refine ⟨h.1, fun β I w vs hi hv => ?_⟩
  obtain ⟨I1, i1, s1, t1⟩ := hs β I w vs hi hv
  let n := σ1.length
  let g := pl ps n
  have hplt : ∀ p ∈ ps, p < n := by
    intro p hp
    obtain ⟨i, hi'⟩ := List.getElem?_of_mem hp
    have hil : i < σ0.length := by rw [← hl]; exact (List.getElem?_eq_some_iff.1 hi').1
    have := hb i p _ hi' (List.getElem?_eq_getElem hil)
    exact (List.getElem?_eq_some_iff.1 this).1
  have hgs : ∀ t p, ps[t]? = some p → g t = p := fun t p ht => by simp [g, pl, ht]
  have hgn : ∀ t, ps.length ≤ t → g t = n + (t - ps.length) := fun t ht => by simp [g, pl, List.getElem?_eq_none ht]
  let β0 : Nat → Option BV := fun t => β (g t)
  have hβ0 : ∀ t, ps.length ≤ t → β0 t = none := fun t ht => by
    simp only [β0, hgn t ht]
    exact i1.none_ge (by show σ1.length ≤ _; omega)
  have hginj : ∀ t t', g t = g t' → t = t' := by
    intro t t' e
    by_cases h1 : t < ps.length <;> by_cases h2 : t' < ps.length
    · rw [hgs t _ (List.getElem?_eq_getElem h1), hgs t' _ (List.getElem?_eq_getElem h2)] at e
      exact nodup_get hn (List.getElem?_eq_getElem h1) (by rw [e]; exact List.getElem?_eq_getElem h2)
    · rw [hgs t _ (List.getElem?_eq_getElem h1), hgn t' (by omega)] at e
      have := hplt _ (List.getElem_mem h1)
      omega
    · rw [hgn t (by omega), hgs t' _ (List.getElem?_eq_getElem h2)] at e
      have := hplt _ (List.getElem_mem h2)
      omega
    · rw [hgn t (by omega), hgn t' (by omega)] at e; omega
  have i0 : Inv β0 I1 σ0 w := by
    refine ⟨i1.imm, fun t k hk => ?_, fun t x hx => ?_, fun t t' x x' hx hx' he => hginj _ _ (i1.inj _ _ _ _ hx hx' he)⟩
    · have hlt : t < ps.length := by rw [hl]; exact (List.getElem?_eq_some_iff.1 hk).1
      have h1 := hb t _ k (List.getElem?_eq_getElem hlt) hk
      have h2 := i1.blk _ _ h1
      rw [← hgs t _ (List.getElem?_eq_getElem hlt)] at h2
      exact (BlkR.pull g t k).1 h2
    · have hlt : t < ps.length := by
        rcases Nat.lt_or_ge t ps.length with h | h
        · exact h
        · rw [hβ0 t h] at hx; cases hx
      obtain ⟨k, h1, h2⟩ := i1.live _ _ hx
      exact ⟨σ0[t]'(by omega), List.getElem?_eq_getElem (by omega), h2⟩
  have hv0 : VRs β0 I1 args0 vs := (VRs.pull g args0 vs).1 (VRs.le _ ha t1)
  refine (h.2 _ _ _ _ i0 hv0).mono fun e w' hp => ?_
  obtain ⟨c, β', I', r, σ', mv, rfl, hR, hvr, hi', hst, hk⟩ := hp
  obtain ⟨rfl, hlen⟩ := hmv _ _ _ hR
  let β2 : Nat → Option BV := fun t => if t ∈ ps then β' (ps.idxOf t) else if t < n then β t else β' (ps.length + (t - n))
  have hβ2g : ∀ t, β2 (g t) = β' t := by
    intro t
    by_cases h1 : t < ps.length
    · have hp := hgs t _ (List.getElem?_eq_getElem h1)
      have hm : ps[t] ∈ ps := List.getElem_mem h1
      simp only [β2, hp, hm, if_true]
      congr 1
      exact nodup_get hn (by rw [List.getElem?_eq_getElem (List.idxOf_lt_length_of_mem hm)]; simp) (List.getElem?_eq_getElem h1)
    · have hg := hgn t (by omega)
      have hm : g t ∉ ps := fun hm => by have := hplt _ hm; omega
      simp only [β2, hm, if_false]
      rw [if_neg (by omega), hg]
      congr 1
      omega
  have hβ2o : ∀ t, t ∉ ps → t < n → β2 t = β t := fun t h1 h2 => by simp [β2, h1, h2]
  -- each tag is of one sort
  have sort : ∀ t, (t ∉ ps ∧ t < n) ∨ ∃ i, t = g i := by
    intro t
    by_cases hm : t ∈ ps
    · obtain ⟨i, hi'⟩ := List.getElem?_of_mem hm
      exact .inr ⟨i, (hgs i t hi').symm⟩
    · by_cases hlt : t < n
      · exact .inl ⟨hm, hlt⟩
      · exact .inr ⟨ps.length + (t - n), by rw [hgn _ (by omega)]; omega⟩
  have hk2 : Keeps [] β β2 := by
    intro t x hx _
    rcases sort t with ⟨h1, h2⟩ | ⟨i, rfl⟩
    · rw [hβ2o t h1 h2]; exact hx
    · rw [hβ2g]; exact hk i x hx (by simp)
  have hnot : ∀ t x, t ∉ ps → β t = some (.real x) → ∀ t' x', β0 t' = some (.real x') → x'.b ≠ x.b := by
    intro t x ht hx t' x' hx' he
    have := i1.inj _ _ _ _ hx' hx he
    have hlt : t' < ps.length := by
      rcases Nat.lt_or_ge t' ps.length with h | h
      · exact h
      · rw [hβ0 t' h] at hx'; cases hx'
    rw [hgs t' _ (List.getElem?_eq_getElem hlt)] at this
    exact ht (this ▸ List.getElem_mem hlt)
  have hsame : ∀ t x, t ∉ ps → β t = some (.real x) → w'.heap[x.b]? = w.heap[x.b]? := fun t x ht hx => hst.frame x.b (i1.blt hx) (hnot t x ht hx)
  have hInone : ∀ t x o, t ∉ ps → β t = some (.real x) → I1 x.b o = none → I' x.b o = none := by
    intro t x o ht hx ho
    cases hio : I' x.b o with
    | none => rfl
    | some v =>
      rcases hst.fresh x.b o v hio with h1 | ⟨t', x', h1, h2⟩ | h1
      · rw [ho] at h1; cases h1
      · exact (hnot t x ht hx t' x' h1 h2).elim
      · have := i1.blt hx; omega
  have hks : ps.length ≤ (σ'.map (Blk.mapT g)).length := by simp; omega
  have hget : ∀ i k', (putAll σ1 ps (σ'.map (Blk.mapT g)))[g i]? = some k' → ∃ k, σ'[i]? = some k ∧ k' = k.mapT g := by
    intro i k' hk'
    have : (putAll σ1 ps (σ'.map (Blk.mapT g)))[g i]? = (σ'.map (Blk.mapT g))[i]? := by
      by_cases h1 : i < ps.length
      · rw [hgs i _ (List.getElem?_eq_getElem h1)]
        exact putAll_at hks hn hplt (List.getElem?_eq_getElem h1)
      · rw [hgn i (by omega), putAll_new hks (by show σ1.length ≤ _; omega)]
        congr 1
        omega
    rw [this, List.getElem?_map, Option.map_eq_some_iff] at hk'
    obtain ⟨k, h1, h2⟩ := hk'
    exact ⟨k, h1, h2.symm⟩
  have hget' : ∀ i k, σ'[i]? = some k → (putAll σ1 ps (σ'.map (Blk.mapT g)))[g i]? = some (k.mapT g) := by
    intro i k hk'
    have : (putAll σ1 ps (σ'.map (Blk.mapT g)))[g i]? = (σ'.map (Blk.mapT g))[i]? := by
      by_cases h1 : i < ps.length
      · rw [hgs i _ (List.getElem?_eq_getElem h1)]
        exact putAll_at hks hn hplt (List.getElem?_eq_getElem h1)
      · rw [hgn i (by omega), putAll_new hks (by show σ1.length ≤ _; omega)]
        congr 1
        omega
    rw [this, List.getElem?_map, hk']
    rfl
  have hpull : (fun t => β2 (g t)) = β' := funext hβ2g
  refine ⟨c, β2, I', _, _, _, rfl, ⟨rfl, r, σ', hR, rfl, rfl⟩, ?_, ?_, ?_, hk2⟩
  · rw [VR.pull g, hpull]; exact hvr
  · refine ⟨hi'.imm, fun t k' hk' => ?_, fun t x hx => ?_, fun t t' x x' hx hx' he => ?_⟩
    · rcases sort t with ⟨h1, h2⟩ | ⟨i, rfl⟩
      · rw [putAll_old hks h1 h2] at hk'
        exact BlkR.mono hk2 hst.mono (i1.blk t k' hk') (fun x hx => hsame t x h1 hx) (fun x o hx ho => hInone t x o h1 hx ho)
      · obtain ⟨k, h1, rfl⟩ := hget i k' hk'
        rw [BlkR.pull g, hpull]
        exact hi'.blk i k h1
    · rcases sort t with ⟨h1, h2⟩ | ⟨i, rfl⟩
      · rw [hβ2o t h1 h2] at hx
        obtain ⟨k, h3, h4⟩ := i1.live t x hx
        exact ⟨k, by rw [putAll_old hks h1 h2]; exact h3, fun y hy => Nat.lt_of_lt_of_le (h4 y hy) hst.size⟩
      · rw [hβ2g] at hx
        obtain ⟨k, h3, h4⟩ := hi'.live i x hx
        exact ⟨_, hget' i k h3, h4⟩
    · have mixed : ∀ t i x x', t ∉ ps → t < n → β t = some (.real x) → β' i = some (.real x') → x.b = x'.b → False := by
        intro t i x x' h1 h2 h3 h4 h5
        rcases hst.tags i x' h4 with ⟨t'', x'', h6, h7⟩ | h6
        · exact hnot t x h1 h3 t'' x'' h6 (by omega)
        · have := i1.blt h3; omega
      rcases sort t with ⟨h1, h2⟩ | ⟨i, rfl⟩ <;> rcases sort t' with ⟨h3, h4⟩ | ⟨i', rfl⟩
      · rw [hβ2o t h1 h2] at hx; rw [hβ2o t' h3 h4] at hx'; exact i1.inj _ _ _ _ hx hx' he
      · rw [hβ2o t h1 h2] at hx; rw [hβ2g] at hx'; exact (mixed t i' x x' h1 h2 hx hx' he).elim
      · rw [hβ2g] at hx; rw [hβ2o t' h3 h4] at hx'; exact (mixed t' i x' x h3 h4 hx' hx he.symm).elim
      · rw [hβ2g] at hx hx'; rw [hi'.inj _ _ _ _ hx hx' he]
  · refine s1.trans ⟨hst.os, hst.tape, hst.output, hst.size, fun b hb hno => hst.frame b hb (fun t x hx => hno (g t) x hx), hst.mono, fun b o v hv => ?_, fun t x hx => ?_⟩
    · rcases hst.fresh b o v hv with h1 | ⟨t, x, h1, h2⟩ | h1
      · exact .inl h1
      · exact .inr (.inl ⟨g t, x, h1, h2⟩)
      · exact .inr (.inr h1)
    · rcases sort t with ⟨h1, h2⟩ | ⟨i, rfl⟩
      · rw [hβ2o t h1 h2] at hx; exact .inl ⟨t, x, hx, rfl⟩
      · rw [hβ2g] at hx
        rcases hst.tags i x hx with ⟨t', x', h3, h4⟩ | h3
        · exact .inl ⟨g t', x', h3, h4⟩
        · exact .inr h3
/-- The contract: this value, this heap. -/
def eqS (v : V) (σ' : List Blk) : V → List Blk → List Nat → Prop := fun r s mv => r = v ∧ s = σ' ∧ mv = []
theorem at_blocks {ps : List Nat} {σ0 σ1 : List Blk} {g : Nat → Nat} (hb : (ps.map fun p => σ1[p]?) = σ0.map fun k => some (k.mapT g)) : ∀ (i p : Nat) (k : Blk), ps[i]? = some p → σ0[i]? = some k → σ1[p]? = some (k.mapT g) := by
  intro i p k h1 h2
  have e1 : (ps.map fun p => σ1[p]?)[i]? = some (σ1[p]?) := by rw [List.getElem?_map, h1]; rfl
  rw [hb, List.getElem?_map, h2] at e1
  simpa using e1.symm
theorem call_at (ps : List Nat) {f : FuncId} {args0 args args1 : List V} {σ0 σ0' σ σ1 : List Blk} {v : V} {K : V → List Blk → List Nat → Prop} (h : AC P f args0 σ0 (eqS v σ0')) (hlen : σ0.length ≤ σ0'.length) (hn : ps.Nodup) (hl : ps.length = σ0.length)
    (hs : frzAs σ args = some (args1, σ1)) (hb : (ps.map fun p => σ1[p]?) = σ0.map fun k => some (k.mapT (pl ps σ1.length))) (ha : V.les args1 (V.mapTs (pl ps σ1.length) args0))
    (hk : K (v.mapT (pl ps σ1.length)) (putAll σ1 ps (σ0'.map (Blk.mapT (pl ps σ1.length)))) []) : AC P f args σ K :=
  AC.mono (AC_frame h (fun r σ' mv hh => by obtain ⟨rfl, rfl, rfl⟩ := hh; exact ⟨rfl, hlen⟩) hn hl (frzAs_R hs) (at_blocks hb) ha) fun r2 σ2 mv2 hh => by
    obtain ⟨rfl, r, σ', ⟨rfl, rfl, _⟩, rfl, rfl⟩ := hh
    exact hk
/-- The same, in a region that draws its order, of a call that writes. -/
theorem drawW_at (ps : List Nat) {f : FuncId} {args0 args args1 : List V} {σ0 σ0' σ σ1 : List Blk} {v : V} {K : V → List Blk → List Nat → Prop} (h : AC P f args0 σ0 (eqS v σ0')) (hlen : σ0.length ≤ σ0'.length) (hn : ps.Nodup) (hl : ps.length = σ0.length)
    (hs : frzAs σ args = some (args1, σ1)) (hb : (ps.map fun p => σ1[p]?) = σ0.map fun k => some (k.mapT (pl ps σ1.length))) (ha : V.les args1 (V.mapTs (pl ps σ1.length) args0))
    (hk : K (v.mapT (pl ps σ1.length)) (putAll σ1 ps (σ0'.map (Blk.mapT (pl ps σ1.length)))) []) : ExW P f args σ K :=
  ⟨_, _, call_at ps h hlen hn hl hs hb ha ⟨rfl, rfl, rfl⟩, hk⟩
end
/-! ### Blocks, one sort at a time -/
theorem rn_dead (f : Nat → Option Nat) : Blk.rn f .dead = some .dead := rfl
theorem rn_box (f : Nat → Option Nat) (cells : List V) (ro : Bool) : Blk.rn f (.box cells ro) = (V.rns f cells).map fun cells => .box cells ro := rfl
theorem rn_rows (f : Nat → Option Nat) (z : Nat) (xs : List (List T)) (ro : Bool) : Blk.rn f (.rows z xs ro) = some (.rows z xs ro) := rfl
theorem mapT_dead (f : Nat → Nat) : Blk.mapT f .dead = .dead := rfl
theorem mapT_box (f : Nat → Nat) (cells : List V) (ro : Bool) : Blk.mapT f (.box cells ro) = .box (V.mapTs f cells) ro := rfl
theorem mapT_rows (f : Nat → Nat) (z : Nat) (xs : List (List T)) (ro : Bool) : Blk.mapT f (.rows z xs ro) = .rows z xs ro := rfl
theorem mapT_it (f : Nat → Nat) (m : Option Nat) (a : Nat) (b : List Nat) (c : Nat) : Blk.mapT f (.it m a b c) = .it (m.map f) a b c := rfl
theorem pz_dead (f : List Nat) : Blk.pz f .dead = .dead := rfl
theorem pz_box (f : List Nat) (cells : List V) (ro : Bool) : Blk.pz f (.box cells ro) = .box (V.pzs f cells) ro := rfl
theorem pz_rows (f : List Nat) (z : Nat) (xs : List (List T)) (ro : Bool) : Blk.pz f (.rows z xs ro) = .rows z xs ro := rfl
theorem pz_its (f : List Nat) (m : Nat) (a : Nat) (b : List Nat) (c : Nat) : Blk.pz f (.it (some m) a b c) = if m ∈ f then .dead else .it (some m) a b c := rfl
theorem pz_itn (f : List Nat) (a : Nat) (b : List Nat) (c : Nat) : Blk.pz f (.it none a b c) = .it none a b c := rfl
def flatS : V → Bool
  | .s _ => true
  | .agg cs => cs.all fun | .s _ => true | _ => false
  | _ => false
theorem flats_rn (f : Nat → Option Nat) : ∀ cs : List V, (cs.all fun | .s _ => true | _ => false) = true → V.rns f cs = some cs
  | [], _ => rfl
  | v :: cs, h => by
    simp only [List.all_cons, Bool.and_eq_true] at h
    cases v <;> simp at h
    simp [V.rns, V.rn, flats_rn f cs (by simpa using h)]
theorem flatS_rn (f : Nat → Option Nat) {v : V} (h : flatS v = true) : v.rn f = some v := by
  cases v <;> simp [flatS] at h
  · rfl
  · simp [V.rn, flats_rn f _ (by simpa using h)]
theorem flats_mapT (f : Nat → Nat) : ∀ cs : List V, (cs.all fun | .s _ => true | _ => false) = true → V.mapTs f cs = cs
  | [], _ => rfl
  | v :: cs, h => by
    simp only [List.all_cons, Bool.and_eq_true] at h
    cases v <;> simp at h
    simp [V.mapTs, V.mapT, flats_mapT f cs (by simpa using h)]
theorem flatS_mapT (f : Nat → Nat) {v : V} (h : flatS v = true) : v.mapT f = v := by
  cases v <;> simp [flatS] at h
  · rfl
  · simp [V.mapT, flats_mapT f _ (by simpa using h)]
theorem flats_pz (f : List Nat) : ∀ cs : List V, (cs.all fun | .s _ => true | _ => false) = true → V.pzs f cs = cs
  | [], _ => rfl
  | v :: cs, h => by
    simp only [List.all_cons, Bool.and_eq_true] at h
    cases v <;> simp at h
    simp [V.pzs, V.pz, flats_pz f cs (by simpa using h)]
theorem flatS_pz (f : List Nat) {v : V} (h : flatS v = true) : v.pz f = v := by
  cases v <;> simp [flatS] at h
  · rfl
  · simp [V.pz, flats_pz f _ (by simpa using h)]
/-- A map of plain data. -/
def flatE (es : List (V × V × Nat)) : Bool := es.all fun e => flatS e.1 && flatS e.2.1
theorem rn_mp {es : List (V × V × Nat)} (h : flatE es = true) (f : Nat → Option Nat) (c : Nat) : Blk.rn f (.mp es c) = some (.mp es c) := by
  have : (es.mapM fun (e : V × V × Nat) => (e.1.rn f).bind fun k => (e.2.1.rn f).map fun v => (k, v, e.2.2)) = some es := by
    induction es with
    | nil => rfl
    | cons e es ih =>
      simp only [flatE, List.all_cons, Bool.and_eq_true] at h
      simp [List.mapM_cons, flatS_rn f h.1.1, flatS_rn f h.1.2, ih (by simpa [flatE] using h.2)]
  simp [Blk.rn, this]
theorem mapT_mp {es : List (V × V × Nat)} (h : flatE es = true) (f : Nat → Nat) (c : Nat) : Blk.mapT f (.mp es c) = .mp es c := by
  have : (es.map fun e => (e.1.mapT f, e.2.1.mapT f, e.2.2)) = es := by
    induction es with
    | nil => rfl
    | cons e es ih =>
      simp only [flatE, List.all_cons, Bool.and_eq_true] at h
      simp [flatS_mapT f h.1.1, flatS_mapT f h.1.2, ih (by simpa [flatE] using h.2)]
  simp [Blk.mapT, this]
theorem pz_mp {es : List (V × V × Nat)} (h : flatE es = true) (f : List Nat) (c : Nat) : Blk.pz f (.mp es c) = .mp es c := by
  have : (es.map fun e => (e.1.pz f, e.2.1.pz f, e.2.2)) = es := by
    induction es with
    | nil => rfl
    | cons e es ih =>
      simp only [flatE, List.all_cons, Bool.and_eq_true] at h
      simp [flatS_pz f h.1.1, flatS_pz f h.1.2, ih (by simpa [flatE] using h.2)]
  simp [Blk.pz, this]
theorem arr_all {α : Type} {l : List α} {p : α → Bool} {n : Nat} (h : l.length = n) : l.toArray.all p 0 n = l.all p := by
  subst h
  simp
end Go.Ai
