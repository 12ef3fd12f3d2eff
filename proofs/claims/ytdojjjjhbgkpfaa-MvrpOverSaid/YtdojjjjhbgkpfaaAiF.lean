/- An interpreter of the language over data, and the proof that what it answers is what the machine does; no condition. -/
import Derived.Test.YtdojjjjhbgkpfaaAiW
set_option linter.unusedVariables false
set_option linter.unusedSimpArgs false
namespace Go.Ai
/-! ## Values as data: arguments and results -/
/-- Cells of a box, as data that nobody changes any more. -/
def frzBox (σ : List Blk) (t off n : Nat) : Option (List T × List Blk) :=
  match σ[t]? with
  | some (.box cells _) =>
    if off + n ≤ cells.length then
      match frz σ ((cells.drop off).take n) with
      | some (ts, σ1) => match σ1[t]? with
        | some (.box cells1 _) => some (ts, σ1.set t (.box cells1 true))
        | _ => none
      | none => none
    else none
  | _ => none
def boxLen (σ : List Blk) (t : Nat) : Nat :=
  match σ[t]? with
  | some (.box cells _) => cells.length
  | _ => 0
mutual
/-- A value as data; what it leads to is frozen. 'c': within a closure (there a box may be looked into). -/
def frzV (c : Bool) (σ : List Blk) : V → Option (V × List Blk)
  | .s v => some (.s v, σ)
  | .sl z rows => some (.sl z rows, σ)
  | .iref cs => some (.iref cs, σ)
  | .undef => some (.undef, σ)
  | .emp => some (.sl 0 [], σ)
  | .own t off len => match frz1 σ (.own t off len) with
    | some (.sl z rows, σ1) => some (.sl z rows, σ1)
    | _ => none
  | .win t off len z => match frzBox σ t off (len * z) with
    | some (ts, σ1) => some (.sl z (chunkT z len ts), σ1)
    | none => none
  | .ptr t i o => if c = true ∧ i = 0 then match frzBox σ t o (boxLen σ t - o) with
    | some (ts, σ1) => some (.iref ts, σ1)
    | none => none else none
  | .mref _ => none
  | .clo fn a b => match frzVs true σ a with
    | some (a', σ1) => match frzVs true σ1 b with
      | some (b', σ2) => some (.clo fn a' b', σ2)
      | none => none
    | none => none
  | .agg cs => match frzVs c σ cs with
    | some (cs', σ1) => some (.agg cs', σ1)
    | none => none
  | .tuple cs => match frzVs c σ cs with
    | some (cs', σ1) => some (.tuple cs', σ1)
    | none => none
def frzVs (c : Bool) (σ : List Blk) : List V → Option (List V × List Blk)
  | [] => some ([], σ)
  | v :: vs => match frzV c σ v with
    | some (v', σ1) => match frzVs c σ1 vs with
      | some (vs', σ2) => some (v' :: vs', σ2)
      | none => none
    | none => none
end
mutual
/-- A value under other tags; none where a tag is let go. -/
def V.rn (f : Nat → Option Nat) : V → Option V
  | .own t off len => (f t).map fun t => .own t off len
  | .win t off len z => (f t).map fun t => .win t off len z
  | .ptr t i o => (f t).map fun t => .ptr t i o
  | .mref t => (f t).map fun t => .mref t
  | .clo fn a b => match V.rns f a, V.rns f b with
    | some a, some b => some (.clo fn a b)
    | _, _ => none
  | .agg cs => (V.rns f cs).map V.agg
  | .tuple cs => (V.rns f cs).map V.tuple
  | v => some v
def V.rns (f : Nat → Option Nat) : List V → Option (List V)
  | [] => some []
  | v :: vs => match v.rn f, V.rns f vs with
    | some v, some vs => some (v :: vs)
    | _, _ => none
end
def Blk.rn (f : Nat → Option Nat) : Blk → Option Blk
  | .dead => some .dead
  | .box cells ro => (V.rns f cells).map fun cells => .box cells ro
  | .rows z xs ro => some (.rows z xs ro)
  | .capd z xs k => some (.capd z xs k)
  | .mp es c => (es.mapM fun (e : V × V × Nat) => (e.1.rn f).bind fun k => (e.2.1.rn f).map fun v => (k, v, e.2.2)).map fun es => .mp es c
  | .it none since seen last => some (.it none since seen last)
  | .it (some m) since seen last => some (match f m with
    | some m => .it (some m) since seen last
    | none => .dead)
section
variable {P : Program} {β : Nat → Option BV} {I : Imm} {w : World} {σ : List Blk}
theorem frzBox_sound (hi : Inv β I σ w) {t off n : Nat} {ts : List T} {σ' : List Blk} (h : frzBox σ t off n = some (ts, σ')) :
    ∃ I' x, β t = some (.real x) ∧ Inv β I' σ' w ∧ Step β I w β I' w ∧ TRcells I' x.b off ts ∧ ts.length = n := by
  unfold frzBox at h
  split at h
  · rename_i cells ro hk
    split at h
    · rename_i hle
      split at h
      · rename_i ts' σ1 hf
        split at h
        · rename_i cells1 ro1 hk1
          simp at h
          obtain ⟨rfl, rfl⟩ := h
          have hb := hi.blk t _ hk
          simp only [BlkR] at hb
          obtain ⟨b, cs, e, h1, h2, h3, h4⟩ := hb
          obtain ⟨I1, i1, s1, t1⟩ := frz_sound hi hf ((h3.drop off).take n)
          have hb1 := i1.blk t _ hk1
          simp only [BlkR] at hb1
          obtain ⟨b', cs', e', g1, g2, g3, g4⟩ := hb1
          rw [h1] at g1
          simp at g1
          obtain ⟨rfl, hlen⟩ := g1
          rw [h2] at g2
          simp at g2
          obtain ⟨rfl, rfl⟩ := g2
          have hcell : ∀ o, w.cell? ⟨b, o, none⟩ = cs[o]? := fun o => by simp [World.cell?, h2]
          have hcsl : cs.size = cells.length := by rw [h3.length, Array.length_toList]
          have hlt : t < σ1.length := (List.getElem?_eq_some_iff.1 hk1).1
          have hm : ∀ b' o v, I1 b' o = some v → (if b' = b ∧ off ≤ o ∧ o < off + n then cs[o]? else I1 b' o) = some v := by
            intro b' o v hv
            split
            · rename_i hc
              obtain ⟨rfl, _⟩ := hc
              rw [← hcell o]
              exact i1.imm _ _ _ hv
            · exact hv
          have htl : ts'.length = n := by
            rw [t1.length]
            simp
            omega
          refine ⟨fun b' o => if b' = b ∧ off ≤ o ∧ o < off + n then cs[o]? else I1 b' o, _, h1, ⟨fun b' o v hv => ?_, fun t' k' hk' => ?_, fun t' x hx => ?_, i1.inj⟩, s1.trans ⟨rfl, rfl, rfl, Nat.le_refl _, fun _ _ _ => rfl, hm, fun b' o v hv => ?_, fun t x h => .inl ⟨t, x, h, rfl⟩⟩, ?_, htl⟩
          · split at hv
            · rename_i hc
              obtain ⟨rfl, _⟩ := hc
              rw [hcell o]; exact hv
            · exact i1.imm _ _ _ hv
          · by_cases e : t' = t
            · subst e
              rw [List.getElem?_set_self hlt] at hk'
              simp at hk'
              subst hk'
              simp only [BlkR]
              refine ⟨b, cs, _, by rw [h1, hlen], h2, VRs.mono (Keeps.refl β) hm g3, fun o ho => ?_⟩
              rcases ho with ho | ho
              · cases ho
              · rw [if_neg (by omega)]; exact g4 o (.inr ho)
            · rw [List.getElem?_set_ne (Ne.symm e)] at hk'
              refine BlkR.mono (Keeps.refl β) hm (i1.blk t' k' hk') (fun _ _ => rfl) (fun x o hx ho => ?_)
              rw [if_neg]
              · exact ho
              · rintro ⟨hb', _⟩
                exact e (i1.inj t' t x _ hx h1 hb')
          · obtain ⟨k', h5, h6⟩ := i1.live t' x hx
            by_cases e : t' = t
            · subst e; exact ⟨_, List.getElem?_set_self hlt, h6⟩
            · exact ⟨k', by rw [List.getElem?_set_ne (Ne.symm e)]; exact h5, h6⟩
          · split at hv
            · rename_i hc
              exact .inr (.inl ⟨t, _, h1, hc.1.symm⟩)
            · exact .inl hv
          · refine TRcells.of_list (TRl.mono hm _ _ t1) fun j u hu => ?_
            have hj : j < n := by
              rcases Nat.lt_or_ge j n with h | h
              · exact h
              · rw [List.getElem?_take, if_neg (by omega)] at hu; simp at hu
            rw [List.getElem?_take, if_pos hj, List.getElem?_drop] at hu
            rw [if_pos ⟨rfl, by omega, by omega⟩]
            simpa using hu
        · simp at h
      · simp at h
    · simp at h
  · simp at h
mutual
theorem frzV_sound : ∀ (v : V) {c : Bool} {σ : List Blk} {I : Imm} {v' : V} {σ' : List Blk} {x : Value}, Inv β I σ w → frzV c σ v = some (v', σ') → VR β I v x →
    ∃ I', Inv β I' σ' w ∧ Step β I w β I' w ∧ (∀ β', VR β' I' v' x)
  | .s u, c, σ, I, v', σ', x, hi, h, hx => by
    simp only [frzV, Option.some.injEq, Prod.mk.injEq] at h
    obtain ⟨rfl, rfl⟩ := h
    exact ⟨I, hi, Step.refl _ _ _, fun β' => by simpa [VR] using hx⟩
  | .sl z rows, c, σ, I, v', σ', x, hi, h, hx => by
    simp only [frzV, Option.some.injEq, Prod.mk.injEq] at h
    obtain ⟨rfl, rfl⟩ := h
    exact ⟨I, hi, Step.refl _ _ _, fun β' => by simpa [VR] using hx⟩
  | .iref cs, c, σ, I, v', σ', x, hi, h, hx => by
    simp only [frzV, Option.some.injEq, Prod.mk.injEq] at h
    obtain ⟨rfl, rfl⟩ := h
    exact ⟨I, hi, Step.refl _ _ _, fun β' => by simpa [VR] using hx⟩
  | .undef, c, σ, I, v', σ', x, hi, h, hx => by
    simp only [frzV, Option.some.injEq, Prod.mk.injEq] at h
    obtain ⟨rfl, rfl⟩ := h
    exact ⟨I, hi, Step.refl _ _ _, fun β' => by simp [VR]⟩
  | .emp, c, σ, I, v', σ', x, hi, h, hx => by
    simp only [frzV, Option.some.injEq, Prod.mk.injEq] at h
    obtain ⟨rfl, rfl⟩ := h
    refine ⟨I, hi, Step.refl _ _ _, fun β' => ?_⟩
    simp only [VR, TR] at hx ⊢
    obtain ⟨a, rfl⟩ := hx
    exact ⟨a, 0, rfl, by simp, .inl trivial⟩
  | .own t off len, c, σ, I, v', σ', x, hi, h, hx => by
    simp only [frzV] at h
    split at h
    · rename_i z rows σ1 h1
      simp at h
      obtain ⟨rfl, rfl⟩ := h
      obtain ⟨I1, i1, s1, t1⟩ := frz1_sound hi h1 hx
      exact ⟨I1, i1, s1, fun β' => by simpa [VR] using t1⟩
    · simp at h
  | .win t off len z, c, σ, I, v', σ', x, hi, h, hx => by
    simp only [frzV] at h
    split at h
    · rename_i ts σ1 h1
      simp at h
      obtain ⟨rfl, rfl⟩ := h
      obtain ⟨I1, y, hy, i1, s1, t1, t2⟩ := frzBox_sound hi h1
      refine ⟨I1, i1, s1, fun β' => ?_⟩
      obtain ⟨c1, c2, c3⟩ := chunkT_flat len ts t2
      simp only [VR, TR] at hx ⊢
      obtain ⟨y', a, cap, hy', hcap, rfl, ha⟩ := hx
      rw [hy] at hy'
      simp at hy'
      subst hy'
      refine ⟨a, cap, by rw [c2], by rw [c2]; exact hcap, ?_⟩
      rcases ha with rfl | rfl
      · left; simp [chunkT]
      · right; exact ⟨_, _, rfl, TRrows.of_cells c3 (by rw [c1]; exact t1)⟩
    · simp at h
  | .ptr t i o, c, σ, I, v', σ', x, hi, h, hx => by
    simp only [frzV] at h
    split at h
    · rename_i hc
      obtain ⟨_, rfl⟩ := hc
      split at h
      · rename_i ts σ1 h1
        simp at h
        obtain ⟨rfl, rfl⟩ := h
        obtain ⟨I1, y, hy, i1, s1, t1, t2⟩ := frzBox_sound hi h1
        refine ⟨I1, i1, s1, fun β' => ?_⟩
        simp only [VR] at hx ⊢
        obtain ⟨y', hy', rfl⟩ := hx
        rw [hy] at hy'
        simp at hy'
        subst hy'
        exact ⟨_, _, by simp, t1⟩
      · simp at h
    · simp at h
  | .mref t, c, σ, I, v', σ', x, hi, h, hx => by simp [frzV] at h
  | .clo fn a b, c, σ, I, v', σ', x, hi, h, hx => by
    simp only [frzV] at h
    split at h
    · rename_i a' σ1 h1
      split at h
      · rename_i b' σ2 h2
        simp at h
        obtain ⟨rfl, rfl⟩ := h
        simp only [VR] at hx
        obtain ⟨fv, cv, rfl, ha, hb⟩ := hx
        obtain ⟨I1, i1, s1, t1⟩ := frzVs_sound a hi h1 ha
        obtain ⟨I2, i2, s2, t2⟩ := frzVs_sound b i1 h2 (VRs.mono (Keeps.refl β) s1.mono hb)
        refine ⟨I2, i2, s1.trans s2, fun β' => ?_⟩
        simp only [VR]
        exact ⟨fv, cv, rfl, VRs.mono (Keeps.refl β') s2.mono (t1 β'), t2 β'⟩
      · simp at h
    · simp at h
  | .agg cs, c, σ, I, v', σ', x, hi, h, hx => by
    simp only [frzV] at h
    split at h
    · rename_i a' σ1 h1
      simp at h
      obtain ⟨rfl, rfl⟩ := h
      simp only [VR] at hx
      obtain ⟨vs, rfl, ha⟩ := hx
      obtain ⟨I1, i1, s1, t1⟩ := frzVs_sound cs hi h1 ha
      exact ⟨I1, i1, s1, fun β' => by simp only [VR]; exact ⟨vs, rfl, t1 β'⟩⟩
    · simp at h
  | .tuple cs, c, σ, I, v', σ', x, hi, h, hx => by
    simp only [frzV] at h
    split at h
    · rename_i a' σ1 h1
      simp at h
      obtain ⟨rfl, rfl⟩ := h
      simp only [VR] at hx
      obtain ⟨vs, rfl, ha⟩ := hx
      obtain ⟨I1, i1, s1, t1⟩ := frzVs_sound cs hi h1 ha
      exact ⟨I1, i1, s1, fun β' => by simp only [VR]; exact ⟨vs, rfl, t1 β'⟩⟩
    · simp at h
theorem frzVs_sound : ∀ (vs : List V) {c : Bool} {σ : List Blk} {I : Imm} {vs' : List V} {σ' : List Blk} {xs : List Value}, Inv β I σ w → frzVs c σ vs = some (vs', σ') → VRs β I vs xs →
    ∃ I', Inv β I' σ' w ∧ Step β I w β I' w ∧ (∀ β', VRs β' I' vs' xs)
  | [], c, σ, I, vs', σ', xs, hi, h, hx => by
    simp only [frzVs, Option.some.injEq, Prod.mk.injEq] at h
    obtain ⟨rfl, rfl⟩ := h
    cases xs with
    | nil => exact ⟨I, hi, Step.refl _ _ _, fun β' => by simp [VRs]⟩
    | cons => simp [VRs] at hx
  | v :: vs, c, σ, I, vs', σ', xs, hi, h, hx => by
    cases xs with
    | nil => simp [VRs] at hx
    | cons x xs =>
      simp only [VRs] at hx
      simp only [frzVs] at h
      split at h
      · rename_i v1 σ1 h1
        split at h
        · rename_i vs1 σ2 h2
          simp at h
          obtain ⟨rfl, rfl⟩ := h
          obtain ⟨I1, i1, s1, t1⟩ := frzV_sound v hi h1 hx.1
          obtain ⟨I2, i2, s2, t2⟩ := frzVs_sound vs i1 h2 (VRs.mono (Keeps.refl β) s1.mono hx.2)
          exact ⟨I2, i2, s1.trans s2, fun β' => by simp only [VRs]; exact ⟨VR.mono (Keeps.refl β') s2.mono (t1 β'), t2 β'⟩⟩
        · simp at h
      · simp at h
end
/-! ### Tags let go, and given anew -/
mutual
theorem VR.rn {β' : Nat → Option BV} {f : Nat → Option Nat} (hf : ∀ t t', f t = some t' → β' t' = β t) : ∀ (v : V) {v' : V} {c : Value}, v.rn f = some v' → VR β I v c → VR β' I v' c
  | .s u, v', c, h, hx => by simp only [V.rn, Option.some.injEq] at h; subst h; simpa [VR] using hx
  | .sl z rows, v', c, h, hx => by simp only [V.rn, Option.some.injEq] at h; subst h; simpa [VR] using hx
  | .iref cs, v', c, h, hx => by simp only [V.rn, Option.some.injEq] at h; subst h; simpa [VR] using hx
  | .undef, v', c, h, hx => by simp only [V.rn, Option.some.injEq] at h; subst h; simp [VR]
  | .emp, v', c, h, hx => by simp only [V.rn, Option.some.injEq] at h; subst h; simpa [VR] using hx
  | .own t off len, v', c, h, hx => by
    simp only [V.rn, Option.map_eq_some_iff] at h
    obtain ⟨t', h1, rfl⟩ := h
    simp only [VR] at hx ⊢
    rw [hf t t' h1]
    exact hx
  | .win t off len z, v', c, h, hx => by
    simp only [V.rn, Option.map_eq_some_iff] at h
    obtain ⟨t', h1, rfl⟩ := h
    simp only [VR] at hx ⊢
    rw [hf t t' h1]
    exact hx
  | .ptr t i o, v', c, h, hx => by
    simp only [V.rn, Option.map_eq_some_iff] at h
    obtain ⟨t', h1, rfl⟩ := h
    simp only [VR] at hx ⊢
    rw [hf t t' h1]
    exact hx
  | .mref t, v', c, h, hx => by
    simp only [V.rn, Option.map_eq_some_iff] at h
    obtain ⟨t', h1, rfl⟩ := h
    simp only [VR] at hx ⊢
    rw [hf t t' h1]
    exact hx
  | .clo fn a b, v', c, h, hx => by
    simp only [V.rn] at h
    split at h
    · rename_i a' b' h1 h2
      simp at h
      subst h
      simp only [VR] at hx ⊢
      obtain ⟨fv, cv, rfl, ha, hb⟩ := hx
      exact ⟨fv, cv, rfl, VRs.rn hf a h1 ha, VRs.rn hf b h2 hb⟩
    · simp at h
  | .agg cs, v', c, h, hx => by
    simp only [V.rn, Option.map_eq_some_iff] at h
    obtain ⟨cs', h1, rfl⟩ := h
    simp only [VR] at hx ⊢
    obtain ⟨vs, rfl, ha⟩ := hx
    exact ⟨vs, rfl, VRs.rn hf cs h1 ha⟩
  | .tuple cs, v', c, h, hx => by
    simp only [V.rn, Option.map_eq_some_iff] at h
    obtain ⟨cs', h1, rfl⟩ := h
    simp only [VR] at hx ⊢
    obtain ⟨vs, rfl, ha⟩ := hx
    exact ⟨vs, rfl, VRs.rn hf cs h1 ha⟩
theorem VRs.rn {β' : Nat → Option BV} {f : Nat → Option Nat} (hf : ∀ t t', f t = some t' → β' t' = β t) : ∀ (vs : List V) {vs' : List V} {cs : List Value}, V.rns f vs = some vs' → VRs β I vs cs → VRs β' I vs' cs
  | [], vs', cs, h, hx => by simp only [V.rns, Option.some.injEq] at h; subst h; cases cs <;> simp_all [VRs]
  | v :: vs, vs', cs, h, hx => by
    cases cs with
    | nil => simp [VRs] at hx
    | cons c cs =>
      simp only [VRs] at hx
      simp only [V.rns] at h
      split at h
      · rename_i a b h1 h2
        simp at h
        subst h
        simp only [VRs]
        exact ⟨VR.rn hf v h1 hx.1, VRs.rn hf vs h2 hx.2⟩
      · simp at h
end
theorem EsR.rn {β' : Nat → Option BV} {f : Nat → Option Nat} (hf : ∀ t t', f t = some t' → β' t' = β t) : ∀ (es : List (V × V × Nat)) {es' : List (V × V × Nat)} {cs : List MapEntry},
    (es.mapM fun (e : V × V × Nat) => (e.1.rn f).bind fun k => (e.2.1.rn f).map fun v => (k, v, e.2.2)) = some es' → EsR β I es cs → EsR β' I es' cs
  | [], es', cs, h, hx => by simp at h; subst h; cases cs <;> simp_all [EsR]
  | (k, v, n) :: es, es', cs, h, hx => by
    cases cs with
    | nil => simp [EsR] at hx
    | cons c cs =>
      simp only [EsR] at hx
      simp only [List.mapM_cons, Option.bind_eq_bind, Option.pure_def, Option.bind_eq_some_iff, Option.map_eq_some_iff, Option.some.injEq] at h
      obtain ⟨e1, ⟨k', hk, v', hv, rfl⟩, es1, hes, rfl⟩ := h
      simp only [EsR]
      exact ⟨⟨VR.rn hf k hk hx.1.1, VR.rn hf v hv hx.1.2.1, hx.1.2.2⟩, EsR.rn hf es (by simpa using hes) hx.2⟩
theorem V.rns_length {f : Nat → Option Nat} : ∀ {vs vs' : List V}, V.rns f vs = some vs' → vs'.length = vs.length
  | [], vs', h => by simp only [V.rns, Option.some.injEq] at h; subst h; rfl
  | v :: vs, vs', h => by
    simp only [V.rns] at h
    split at h
    · rename_i a b h1 h2
      simp at h
      subst h
      simp [V.rns_length h2]
    · simp at h
def keepF (kept : List Nat) : Nat → Option Nat := fun t => if t ∈ kept then some (kept.idxOf t) else none
def selB (f : Nat → Option Nat) (σ : List Blk) : List Nat → Option (List Blk)
  | [] => some []
  | t :: ts => match (σ[t]?).bind (Blk.rn f), selB f σ ts with
    | some k, some ks => some (k :: ks)
    | _, _ => none
/-- Of a heap what is kept, and a value of it. -/
def compact (base : Nat) (kept : List Nat) (σ : List Blk) (v : V) : Option (V × List Blk) :=
  if kept.Nodup ∧ kept.take base = List.range base then
    match v.rn (keepF kept), selB (keepF kept) σ kept with
    | some v', some σ' => some (v', σ')
    | _, _ => none
  else none
theorem selB_get {f : Nat → Option Nat} : ∀ {kept : List Nat} {σ' : List Blk}, selB f σ kept = some σ' → σ'.length = kept.length ∧ ∀ (i : Nat) (k' : Blk), σ'[i]? = some k' → ∃ (t : Nat) (k : Blk), kept[i]? = some t ∧ σ[t]? = some k ∧ Blk.rn f k = some k'
  | [], σ', h => by simp [selB] at h; subst h; simp
  | t :: ts, σ', h => by
    simp only [selB] at h
    split at h
    · rename_i k ks h1 h2
      simp at h
      subst h
      obtain ⟨h3, h4⟩ := selB_get h2
      refine ⟨by simp [h3], fun i k' hk' => ?_⟩
      cases i with
      | zero =>
        simp at hk'
        subst hk'
        obtain ⟨k0, h5, h6⟩ := Option.bind_eq_some_iff.1 h1
        exact ⟨t, k0, rfl, h5, h6⟩
      | succ i =>
        simp at hk'
        obtain ⟨t', k0, h5, h6⟩ := h4 i k' hk'
        exact ⟨t', k0, by simpa using h5, h6⟩
    · simp at h
theorem nodup_get {α : Type} : ∀ {l : List α} {i j : Nat} {a : α}, l.Nodup → l[i]? = some a → l[j]? = some a → i = j
  | [], i, j, a, _, h, _ => by simp at h
  | x :: l, 0, 0, a, _, _, _ => rfl
  | x :: l, 0, j + 1, a, hn, h, k => by
    simp at h k
    subst h
    exact absurd (List.mem_of_getElem? k) (List.nodup_cons.1 hn).1
  | x :: l, i + 1, 0, a, hn, h, k => by
    simp at h k
    subst k
    exact absurd (List.mem_of_getElem? h) (List.nodup_cons.1 hn).1
  | x :: l, i + 1, j + 1, a, hn, h, k => by
    simp at h k
    rw [nodup_get (List.nodup_cons.1 hn).2 h k]
theorem sel_inv (hi : Inv β I σ w) {kept : List Nat} {σ1 : List Blk} (hnd : kept.Nodup) (h2 : selB (keepF kept) σ kept = some σ1) :
    (∀ t t', keepF kept t = some t' → (fun i => (kept[i]?).bind β) t' = β t) ∧ Inv (fun i => (kept[i]?).bind β) I σ1 w ∧ Step β I w (fun i => (kept[i]?).bind β) I w := by
  obtain ⟨hlen, hget⟩ := selB_get h2
  have hf : ∀ t t', keepF kept t = some t' → (fun i => (kept[i]?).bind β) t' = β t := by
    intro t t' ht
    unfold keepF at ht
    split at ht
    · rename_i hm
      simp at ht
      subst ht
      have : kept[kept.idxOf t]? = some t := by
        rw [List.getElem?_eq_getElem (List.idxOf_lt_length_of_mem hm)]
        simp
      simp [this]
    · simp at ht
  refine ⟨hf, ⟨hi.imm, fun i k' hk' => ?_, fun i x hx => ?_, fun i j x y hx hy he => ?_⟩, ⟨rfl, rfl, rfl, Nat.le_refl _, fun _ _ _ => rfl, fun _ _ _ h => h, fun _ _ _ h => .inl h, fun i x hx => ?_⟩⟩
  · obtain ⟨t, k, h3, h4, h5⟩ := hget i k' hk'
    have hb := hi.blk t k h4
    have hβ : (kept[i]?).bind β = β t := by simp [h3]
    cases k with
    | dead => simp [Blk.rn] at h5; subst h5; trivial
    | box cells ro =>
      simp only [Blk.rn, Option.map_eq_some_iff] at h5
      obtain ⟨cells', h6, rfl⟩ := h5
      simp only [BlkR] at hb ⊢
      obtain ⟨b, cs, e, g1, g2, g3, g4⟩ := hb
      have hl := V.rns_length h6
      exact ⟨b, cs, e, by rw [hβ, hl]; exact g1, g2, VRs.rn hf cells h6 g3, fun o ho => g4 o (by rwa [hl] at ho)⟩
    | rows z xs ro =>
      simp only [Blk.rn, Option.some.injEq] at h5
      subst h5
      simp only [BlkR] at hb ⊢
      rw [hβ]
      exact hb
    | capd z xs kk =>
      simp only [Blk.rn, Option.some.injEq] at h5
      subst h5
      simp only [BlkR] at hb ⊢
      rw [hβ]
      exact hb
    | mp es cl =>
      simp only [Blk.rn, Option.map_eq_some_iff] at h5
      obtain ⟨es', h6, rfl⟩ := h5
      simp only [BlkR] at hb ⊢
      obtain ⟨b, cs, g1, g2, g3⟩ := hb
      exact ⟨b, cs, by rw [hβ]; exact g1, g2, EsR.rn hf es h6 g3⟩
    | it m since seen last =>
      cases m with
      | none =>
        simp only [Blk.rn, Option.some.injEq] at h5
        subst h5
        simp only [BlkR] at hb ⊢
        rw [hβ]
        obtain ⟨b, g1, mv', g2, g3⟩ := hb
        refine ⟨b, g1, mv', g2, ?_⟩
        rcases g3 with g3 | ⟨tm, x, g3, _⟩
        · exact .inl g3
        · cases g3
      | some m =>
        simp only [Blk.rn, Option.some.injEq] at h5
        subst h5
        split
        · rename_i m' hm'
          simp only [BlkR] at hb ⊢
          rw [hβ]
          obtain ⟨b, g1, mv', g2, g3⟩ := hb
          refine ⟨b, g1, mv', g2, ?_⟩
          rcases g3 with ⟨g3, _⟩ | ⟨tm, x, g3, g4, g5⟩
          · cases g3
          · cases g3
            exact .inr ⟨m', x, rfl, by have := hf _ _ hm'; simp only at this; rw [this]; exact g4, g5⟩
        · trivial
  · obtain ⟨t, h3, h4⟩ := Option.bind_eq_some_iff.1 hx
    obtain ⟨k, h5, h6⟩ := hi.live t x h4
    have hi' : i < kept.length := (List.getElem?_eq_some_iff.1 h3).1
    exact ⟨σ1[i]'(by omega), List.getElem?_eq_getElem (by omega), h6⟩
  · obtain ⟨t, h3, h4⟩ := Option.bind_eq_some_iff.1 hx
    obtain ⟨t', h5, h6⟩ := Option.bind_eq_some_iff.1 hy
    have := hi.inj t t' x y h4 h6 he
    subst this
    exact nodup_get hnd h3 h5
  · obtain ⟨t, h3, h4⟩ := Option.bind_eq_some_iff.1 hx
    exact .inl ⟨t, x, h4, rfl⟩
theorem compact_sound (hi : Inv β I σ w) {base : Nat} {kept : List Nat} {v v' : V} {σ' : List Blk} {c : Value} (h : compact base kept σ v = some (v', σ')) (hv : VR β I v c) :
    ∃ β', Inv β' I σ' w ∧ Step β I w β' I w ∧ VR β' I v' c ∧ ∀ t x, t < base → β t = some x → β' t = some x := by
  unfold compact at h
  split at h
  · rename_i hc
    obtain ⟨hnd, htake⟩ := hc
    split at h
    · rename_i v1 σ1 h1 h2
      simp at h
      obtain ⟨rfl, rfl⟩ := h
      obtain ⟨hlen, hget⟩ := selB_get h2
      have hf : ∀ t t', keepF kept t = some t' → (fun i => (kept[i]?).bind β) t' = β t := by
        intro t t' ht
        unfold keepF at ht
        split at ht
        · rename_i hm
          simp at ht
          subst ht
          have : kept[kept.idxOf t]? = some t := by
            rw [List.getElem?_eq_getElem (List.idxOf_lt_length_of_mem hm)]
            simp
          simp [this]
        · simp at ht
      refine ⟨fun i => (kept[i]?).bind β, ⟨hi.imm, fun i k' hk' => ?_, fun i x hx => ?_, fun i j x y hx hy he => ?_⟩, ⟨rfl, rfl, rfl, Nat.le_refl _, fun _ _ _ => rfl, fun _ _ _ h => h, fun _ _ _ h => .inl h, fun i x hx => ?_⟩, VR.rn hf v h1 hv, fun t x ht hx => ?_⟩
      · obtain ⟨t, k, h3, h4, h5⟩ := hget i k' hk'
        have hb := hi.blk t k h4
        have hβ : (kept[i]?).bind β = β t := by simp [h3]
        cases k with
        | dead => simp [Blk.rn] at h5; subst h5; trivial
        | box cells ro =>
          simp only [Blk.rn, Option.map_eq_some_iff] at h5
          obtain ⟨cells', h6, rfl⟩ := h5
          simp only [BlkR] at hb ⊢
          obtain ⟨b, cs, e, g1, g2, g3, g4⟩ := hb
          have hl := V.rns_length h6
          exact ⟨b, cs, e, by rw [hβ, hl]; exact g1, g2, VRs.rn hf cells h6 g3, fun o ho => g4 o (by rwa [hl] at ho)⟩
        | rows z xs ro =>
          simp only [Blk.rn, Option.some.injEq] at h5
          subst h5
          simp only [BlkR] at hb ⊢
          rw [hβ]
          exact hb
        | capd z xs kk =>
          simp only [Blk.rn, Option.some.injEq] at h5
          subst h5
          simp only [BlkR] at hb ⊢
          rw [hβ]
          exact hb
        | mp es cl =>
          simp only [Blk.rn, Option.map_eq_some_iff] at h5
          obtain ⟨es', h6, rfl⟩ := h5
          simp only [BlkR] at hb ⊢
          obtain ⟨b, cs, g1, g2, g3⟩ := hb
          exact ⟨b, cs, by rw [hβ]; exact g1, g2, EsR.rn hf es h6 g3⟩
        | it m since seen last =>
          cases m with
          | none =>
            simp only [Blk.rn, Option.some.injEq] at h5
            subst h5
            simp only [BlkR] at hb ⊢
            rw [hβ]
            obtain ⟨b, g1, mv', g2, g3⟩ := hb
            refine ⟨b, g1, mv', g2, ?_⟩
            rcases g3 with g3 | ⟨tm, x, g3, _⟩
            · exact .inl g3
            · cases g3
          | some m =>
            simp only [Blk.rn, Option.some.injEq] at h5
            subst h5
            split
            · rename_i m' hm'
              simp only [BlkR] at hb ⊢
              rw [hβ]
              obtain ⟨b, g1, mv', g2, g3⟩ := hb
              refine ⟨b, g1, mv', g2, ?_⟩
              rcases g3 with ⟨g3, _⟩ | ⟨tm, x, g3, g4, g5⟩
              · cases g3
              · cases g3
                exact .inr ⟨m', x, rfl, by have := hf _ _ hm'; simp only at this; rw [this]; exact g4, g5⟩
            · trivial
      · obtain ⟨t, h3, h4⟩ := Option.bind_eq_some_iff.1 hx
        obtain ⟨k, h5, h6⟩ := hi.live t x h4
        have hi' : i < kept.length := (List.getElem?_eq_some_iff.1 h3).1
        exact ⟨σ1[i]'(by omega), List.getElem?_eq_getElem (by omega), h6⟩
      · obtain ⟨t, h3, h4⟩ := Option.bind_eq_some_iff.1 hx
        obtain ⟨t', h5, h6⟩ := Option.bind_eq_some_iff.1 hy
        have := hi.inj t t' x y h4 h6 he
        subst this
        exact nodup_get hnd h3 h5
      · obtain ⟨t, h3, h4⟩ := Option.bind_eq_some_iff.1 hx
        exact .inl ⟨t, x, h4, rfl⟩
      · have : kept[t]? = some t := by
          have e1 : (kept.take base)[t]? = some t := by rw [htake]; simp [ht]
          rw [List.getElem?_take, if_pos ht] at e1
          exact e1
        simp [this, hx]
    · simp at h
  · simp at h
end
end Go.Ai
