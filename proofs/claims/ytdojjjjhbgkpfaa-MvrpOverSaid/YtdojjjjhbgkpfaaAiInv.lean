/- An interpreter of the language over data, and the proof that what it answers is what the machine does; no condition. -/
import Derived.Test.YtdojjjjhbgkpfaaAiLem
set_option linter.unusedVariables false
set_option linter.unusedSimpArgs false
namespace Go.Ai
def ext (β : Nat → Option BV) (t : Nat) (x : BV) : Nat → Option BV := fun i => if i = t then some x else β i
@[simp] theorem ext_self (β : Nat → Option BV) (t : Nat) (x : BV) : ext β t x t = some x := by simp [ext]
theorem ext_ne {β : Nat → Option BV} {t i : Nat} {x : BV} (h : i ≠ t) : ext β t x i = β i := by simp [ext, h]
theorem Keeps.ext {β : Nat → Option BV} {t : Nat} {x : BV} (h : β t = none) : Keeps [] β (ext β t x) := by
  intro i y hy _
  rw [ext_ne]
  · exact hy
  · rintro rfl; rw [h] at hy; cases hy
theorem Keeps.extMv {β : Nat → Option BV} {t : Nat} {x : BV} : Keeps [t] β (Ai.ext β t x) := by
  intro i y hy hm
  rw [ext_ne (by simpa using hm)]
  exact hy
theorem Keeps.refl (β : Nat → Option BV) : Keeps [] β β := fun _ _ h _ => h
section
variable {β β' : Nat → Option BV} {I I' : Imm} {w w' : World} {σ : List Blk}
theorem cell_of_heap {b o : Nat} (h : w'.heap[b]? = w.heap[b]?) : w'.cell? ⟨b, o, none⟩ = w.cell? ⟨b, o, none⟩ := by simp [World.cell?, h]
theorem cell_lt {b o : Nat} {v : Value} (h : w.cell? ⟨b, o, none⟩ = some v) : b < w.heap.size := by
  unfold World.cell? at h
  split at h
  · rename_i c e f hb
    exact (Array.getElem?_eq_some_iff.1 hb).1
  · simp at h
theorem Inv.none_ge (h : Inv β I σ w) {t : Nat} (ht : σ.length ≤ t) : β t = none := by
  cases hb : β t with
  | none => rfl
  | some x =>
    obtain ⟨k, hk, _⟩ := h.live t x hb
    rw [List.getElem?_eq_none ht] at hk
    cases hk
theorem Inv.lt (h : Inv β I σ w) {t : Nat} {x : BV} (hx : β t = some x) : t < σ.length := by
  rcases Nat.lt_or_ge t σ.length with h' | h'
  · exact h'
  · rw [h.none_ge h'] at hx; cases hx
theorem Inv.blt (h : Inv β I σ w) {t : Nat} {x : Bl} (hx : β t = some (.real x)) : x.b < w.heap.size := by
  obtain ⟨k, _, h2⟩ := h.live t _ hx
  exact h2 x rfl
theorem Inv.ilt (h : Inv β I σ w) {b o : Nat} {v : Value} (hv : I b o = some v) : b < w.heap.size := cell_lt (h.imm b o v hv)
theorem BlkR.keep {mv : List Nat} {t : Nat} {k : Blk} (hk : Keeps mv β β') (hm : ∀ b o v, I b o = some v → I' b o = some v) (ht : t ∉ mv) (h : BlkR β I w t k)
    (hh : ∀ x, β t = some (.real x) → w'.heap[x.b]? = w.heap[x.b]?) (hI : ∀ x o, β t = some (.real x) → I x.b o = none → I' x.b o = none) : BlkR β' I' w' t (k.pz mv) := by
  cases k with
  | dead => trivial
  | box cells ro =>
    simp only [BlkR, Blk.pz] at h ⊢
    obtain ⟨b, cs, e, h1, h2, h3, h4⟩ := h
    have hl : (V.pzs mv cells).length = cells.length := by
      have : ∀ l : List V, (V.pzs mv l).length = l.length := fun l => by induction l with | nil => rfl | cons _ _ ih => simp [V.pzs, ih]
      exact this cells
    refine ⟨b, cs, e, ?_, ?_, VRs.keep hk hm _ _ h3, fun o ho => hI _ o h1 (h4 o (by rwa [hl] at ho))⟩
    · rw [hl]; exact hk _ _ h1 ht
    · rw [hh _ h1]; exact h2
  | rows z xs ro =>
    simp only [BlkR, Blk.pz] at h ⊢
    rcases h with ⟨h1, h2⟩ | ⟨b, cap, cs, e, h1, h2, h3, h4, h5, h6, h7, h8⟩
    · exact .inl ⟨hk _ _ h1 ht, h2⟩
    · exact .inr ⟨b, cap, cs, e, hk _ _ h1 ht, by rw [hh _ h1]; exact h2, h3, h4, h5, h6, TRl.mono hm _ _ h7, fun o ho => hI _ o h1 (h8 o ho)⟩
  | capd z xs k =>
    simp only [BlkR, Blk.pz] at h ⊢
    obtain ⟨b, cs, e, h1, h2, h3, h4, h5, h6, h7⟩ := h
    exact ⟨b, cs, e, hk _ _ h1 ht, by rw [hh _ h1]; exact h2, h3, h4, h5, TRl.mono hm _ _ h6, fun o => hI _ o h1 (h7 o)⟩
  | mp es c =>
    simp only [BlkR, Blk.pz] at h ⊢
    obtain ⟨b, cs, h1, h2, h3⟩ := h
    exact ⟨b, cs, hk _ _ h1 ht, by rw [hh _ h1]; exact h2, EsR.keep hk hm _ _ h3⟩
  | it m since seen last =>
    cases m with
    | none =>
      simp only [BlkR, Blk.pz] at h ⊢
      obtain ⟨b, h1, mv', h2, h3⟩ := h
      refine ⟨b, hk _ _ h1 ht, mv', by rw [hh _ h1]; exact h2, ?_⟩
      rcases h3 with h3 | ⟨tm, x, h3, _⟩
      · exact .inl h3
      · cases h3
    | some m =>
      simp only [Blk.pz]
      split
      · trivial
      · rename_i hmm
        simp only [BlkR] at h ⊢
        obtain ⟨b, h1, mv', h2, h3⟩ := h
        refine ⟨b, hk _ _ h1 ht, mv', by rw [hh _ h1]; exact h2, ?_⟩
        rcases h3 with ⟨h3, _⟩ | ⟨tm, x, h3, h4, h5⟩
        · cases h3
        · cases h3
          exact .inr ⟨_, x, rfl, hk _ _ h4 hmm, h5⟩
theorem Blk.pz_nil (k : Blk) : k.pz [] = k := by
  cases k with
  | it m since seen last => cases m <;> simp [Blk.pz]
  | _ => simp [Blk.pz, V.pzs_nil, V.pz_nil]
theorem BlkR.mono {t : Nat} {k : Blk} (hk : Keeps [] β β') (hm : ∀ b o v, I b o = some v → I' b o = some v) (h : BlkR β I w t k)
    (hh : ∀ x, β t = some (.real x) → w'.heap[x.b]? = w.heap[x.b]?) (hI : ∀ x o, β t = some (.real x) → I x.b o = none → I' x.b o = none) : BlkR β' I' w' t k := by
  have := BlkR.keep (w' := w') (I' := I') hk hm (by simp) h hh hI
  rwa [Blk.pz_nil] at this
/-- A new block of the abstract heap. -/
theorem Inv.push (h : Inv β I σ w) (hs : w.heap.size ≤ w'.heap.size) (hh : ∀ b, b < w.heap.size → w'.heap[b]? = w.heap[b]?) (k : Blk) (x : BV)
    (hx : ∀ y, x = .real y → w.heap.size ≤ y.b ∧ y.b < w'.heap.size) (hb : BlkR (ext β σ.length x) I w' σ.length k) : Inv (ext β σ.length x) I (σ ++ [k]) w' where
  imm := fun b o v hv => by rw [cell_of_heap (hh b (h.ilt hv))]; exact h.imm b o v hv
  blk := fun t k' hk' => by
    by_cases ht : t = σ.length
    · subst ht
      simp at hk'
      subst hk'
      exact hb
    · have hlt : t < σ.length := by
        have := (List.getElem?_eq_some_iff.1 hk').1
        simp at this
        omega
      rw [List.getElem?_append_left hlt] at hk'
      exact BlkR.mono (Keeps.ext (h.none_ge (Nat.le_refl _))) (fun _ _ _ h => h) (h.blk t k' hk') (fun x hx => hh _ (h.blt hx)) (fun _ _ _ h => h)
  live := fun t y hy => by
    by_cases ht : t = σ.length
    · subst ht
      simp at hy
      subst hy
      exact ⟨k, by simp, fun y e => (hx y e).2⟩
    · rw [ext_ne ht] at hy
      obtain ⟨k', h1, h2⟩ := h.live t y hy
      have hlt := (List.getElem?_eq_some_iff.1 h1).1
      exact ⟨k', by rw [List.getElem?_append_left hlt]; exact h1, fun z e => Nat.lt_of_lt_of_le (h2 z e) hs⟩
  inj := fun t t' y y' h1 h2 he => by
    by_cases ht : t = σ.length <;> by_cases ht' : t' = σ.length
    · rw [ht, ht']
    · subst ht
      simp at h1
      rw [ext_ne ht'] at h2
      have := h.blt h2
      have := (hx y h1).1
      omega
    · subst ht'
      simp at h2
      rw [ext_ne ht] at h1
      have := h.blt h1
      have := (hx y' h2).1
      omega
    · rw [ext_ne ht] at h1
      rw [ext_ne ht'] at h2
      exact h.inj t t' y y' h1 h2 he
theorem Step.push (h : Inv β I σ w) (ho : w'.os = w.os) (ht : w'.tape = w.tape) (hu : w'.output = w.output) (hs : w.heap.size ≤ w'.heap.size) (hh : ∀ b, b < w.heap.size → w'.heap[b]? = w.heap[b]?) (x : BV)
    (hx : ∀ y, x = .real y → w.heap.size ≤ y.b) (hdr : w.drawn ≤ w'.drawn := by first | exact Nat.le_refl _ | exact Nat.le_succ _) : Step β I w (ext β σ.length x) I w' where
  os := ho
  tape := ht
  output := hu
  size := hs
  frame := fun b hb _ => hh b hb
  mono := fun _ _ _ h => h
  fresh := fun _ _ _ h => .inl h
  tags := fun t y hy => by
    by_cases e : t = σ.length
    · subst e
      simp at hy
      exact .inr (hx y hy)
    · rw [ext_ne e] at hy
      exact .inl ⟨t, y, hy, rfl⟩
/-- A block of one's own is written. -/
theorem Inv.upd (h : Inv β I σ w) {t : Nat} {x : Bl} (hx : β t = some (.real x)) (hs : w.heap.size ≤ w'.heap.size) (hh : ∀ b, b < w.heap.size → b ≠ x.b → w'.heap[b]? = w.heap[b]?)
    (hI : ∀ o v, I x.b o = some v → w'.cell? ⟨x.b, o, none⟩ = some v) (k : Blk) (hb : BlkR β I w' t k) : Inv β I (σ.set t k) w' where
  imm := fun b o v hv => by
    by_cases e : b = x.b
    · subst e; exact hI o v hv
    · rw [cell_of_heap (hh b (h.ilt hv) e)]; exact h.imm b o v hv
  blk := fun t' k' hk' => by
    by_cases e : t' = t
    · subst e
      rw [List.getElem?_set_self (h.lt hx)] at hk'
      simp at hk'
      subst hk'
      exact hb
    · rw [List.getElem?_set_ne (Ne.symm e)] at hk'
      exact BlkR.mono (Keeps.refl β) (fun _ _ _ h => h) (h.blk t' k' hk') (fun y hy => hh _ (h.blt hy) (fun e' => e (h.inj t' t y x hy hx e'))) (fun _ _ _ h => h)
  live := fun t' y hy => by
    obtain ⟨k', h1, h2⟩ := h.live t' y hy
    refine ⟨if t' = t then k else k', ?_, fun z e => Nat.lt_of_lt_of_le (h2 z e) hs⟩
    by_cases e : t' = t
    · subst e; simp [h.lt hy]
    · rw [List.getElem?_set_ne (Ne.symm e)]; simp [e, h1]
  inj := h.inj
theorem Step.upd {t : Nat} {x : Bl} (hx : β t = some (.real x)) (ho : w'.os = w.os) (ht : w'.tape = w.tape) (hu : w'.output = w.output) (hs : w.heap.size ≤ w'.heap.size)
    (hh : ∀ b, b < w.heap.size → b ≠ x.b → w'.heap[b]? = w.heap[b]?) (hdr : w.drawn ≤ w'.drawn := by first | exact Nat.le_refl _ | exact Nat.le_succ _) : Step β I w β I w' where
  os := ho
  tape := ht
  output := hu
  size := hs
  frame := fun b hb hn => hh b hb (fun e => hn t x hx e.symm)
  mono := fun _ _ _ h => h
  fresh := fun _ _ _ h => .inl h
  tags := fun t y hy => .inl ⟨t, y, hy, rfl⟩
/-- A block of one's own grows: it may lie elsewhere now. -/
theorem Inv.move (h : Inv β I σ w) {t : Nat} (hlt : t < σ.length) (k : Blk) (x' : BV) (hs : w.heap.size ≤ w'.heap.size)
    (hh : ∀ b, b < w.heap.size → (∀ x, β t = some (.real x) → x.b ≠ b) → w'.heap[b]? = w.heap[b]?)
    (hI : ∀ x o v, β t = some (.real x) → I x.b o = some v → w'.cell? ⟨x.b, o, none⟩ = some v)
    (hx' : ∀ y, x' = .real y → ((∃ x, β t = some (.real x) ∧ y.b = x.b) ∨ w.heap.size ≤ y.b) ∧ y.b < w'.heap.size)
    (hb : BlkR (ext β t x') I w' t (k.pz [t])) : Inv (ext β t x') I ((σ.set t k).map (Blk.pz [t])) w' where
  imm := fun b o v hv => by
    by_cases e : ∀ x, β t = some (.real x) → x.b ≠ b
    · rw [cell_of_heap (hh b (h.ilt hv) e)]; exact h.imm b o v hv
    · simp only [Classical.not_forall, Decidable.not_not] at e
      obtain ⟨x, hx, rfl⟩ := e
      exact hI x o v hx hv
  blk := fun t' k' hk' => by
    rw [List.getElem?_map, Option.map_eq_some_iff] at hk'
    obtain ⟨k1, hk1, rfl⟩ := hk'
    by_cases e : t' = t
    · subst e
      rw [List.getElem?_set_self hlt] at hk1
      simp at hk1
      subst hk1
      exact hb
    · rw [List.getElem?_set_ne (Ne.symm e)] at hk1
      exact BlkR.keep Keeps.extMv (fun _ _ _ h => h) (by simpa using e) (h.blk t' k1 hk1) (fun y hy => hh _ (h.blt hy) (fun x hx e' => e (h.inj t' t y x hy hx e'.symm))) (fun _ _ _ h => h)
  live := fun t' y hy => by
    by_cases e : t' = t
    · subst e
      simp at hy
      subst hy
      exact ⟨k.pz [t'], by simp [hlt], fun y e => (hx' y e).2⟩
    · rw [ext_ne e] at hy
      obtain ⟨k', h1, h2⟩ := h.live t' y hy
      exact ⟨k'.pz [t], by rw [List.getElem?_map, List.getElem?_set_ne (Ne.symm e), h1]; rfl, fun z e => Nat.lt_of_lt_of_le (h2 z e) hs⟩
  inj := fun t1 t2 y y' h1 h2 he => by
    by_cases e1 : t1 = t <;> by_cases e2 : t2 = t
    · rw [e1, e2]
    · subst e1
      simp at h1
      rw [ext_ne e2] at h2
      rcases (hx' y h1).1 with ⟨x, hx, hb⟩ | hge
      · exact h.inj _ _ x y' hx h2 (by rw [← hb, he])
      · have := h.blt h2; omega
    · subst e2
      simp at h2
      rw [ext_ne e1] at h1
      rcases (hx' y' h2).1 with ⟨x, hx, hb⟩ | hge
      · exact h.inj _ _ y x h1 hx (by rw [he, hb])
      · have := h.blt h1; omega
    · rw [ext_ne e1] at h1
      rw [ext_ne e2] at h2
      exact h.inj _ _ y y' h1 h2 he
theorem Step.move (h : Inv β I σ w) {t : Nat} (x' : BV) (ho : w'.os = w.os) (ht : w'.tape = w.tape) (hu : w'.output = w.output) (hs : w.heap.size ≤ w'.heap.size)
    (hh : ∀ b, b < w.heap.size → (∀ x, β t = some (.real x) → x.b ≠ b) → w'.heap[b]? = w.heap[b]?)
    (hx' : ∀ y, x' = .real y → ((∃ x, β t = some (.real x) ∧ y.b = x.b) ∨ w.heap.size ≤ y.b)) (hdr : w.drawn ≤ w'.drawn := by first | exact Nat.le_refl _ | exact Nat.le_succ _) : Step β I w (ext β t x') I w' where
  os := ho
  tape := ht
  output := hu
  size := hs
  frame := fun b hb hn => hh b hb (fun x hx => hn t x hx)
  mono := fun _ _ _ h => h
  fresh := fun _ _ _ h => .inl h
  tags := fun t1 y hy => by
    by_cases e : t1 = t
    · subst e
      simp at hy
      rcases hx' y hy with ⟨x, hx, hb⟩ | hge
      · exact .inl ⟨_, x, hx, hb.symm⟩
      · exact .inr hge
    · rw [ext_ne e] at hy
      exact .inl ⟨t1, y, hy, rfl⟩
/-- Cells that nobody changes any more are added: of blocks of one's own (whose rows are then read alone), or new ones. -/
theorem Inv.drew (h : Inv β I σ w) : Inv β I σ w.drew := ⟨h.imm, fun t k hk => h.blk t k hk, fun t x hx => h.live t x hx, h.inj⟩
theorem Step.drew (β : Nat → Option BV) (I : Imm) (w : World) : Step β I w β I w.drew := ⟨rfl, rfl, rfl, Nat.le_refl _, fun _ _ _ => rfl, fun _ _ _ h => h, fun _ _ _ h => .inl h, fun t x h => .inl ⟨t, x, h, rfl⟩⟩
/-! ### What the heap's cells hold -/
theorem Inv.cells (h : Inv β I σ w) {t i : Nat} {cells : List V} (hc : cellsAt σ t i = some cells) : ∃ x, β t = some (.real x) ∧ VRsAt β I w x.b (i * x.z) cells := by
  unfold cellsAt at hc
  split at hc
  · rename_i cs ro hk
    split at hc
    · rename_i hi
      subst hi
      simp at hc
      subst hc
      have hb := h.blk t _ hk
      simp only [BlkR] at hb
      obtain ⟨b, cs', e, h1, h2, h3, h4⟩ := hb
      refine ⟨_, h1, ?_⟩
      simp only [Nat.zero_mul]
      exact VRsAt.of_list h3 fun j u hu => by simp [World.cell?, h2, ← Array.getElem?_toList, hu]
    · simp at hc
  · rename_i z xs ro hk
    rw [Option.map_eq_some_iff] at hc
    obtain ⟨r, hr, rfl⟩ := hc
    have hb := h.blk t _ hk
    simp only [BlkR] at hb
    rcases hb with ⟨_, rfl⟩ | ⟨b, cap, cs, e, h1, h2, h3, h4, h5, h6, h7, h8⟩
    · simp at hr
    · refine ⟨_, h1, ?_⟩
      simp only
      have hlt : i < xs.length := (List.getElem?_eq_some_iff.1 hr).1
      have hrow := flatten_row h6 hr
      have := (h7.drop (i * z)).take z
      rw [hrow] at this
      refine VRsAt.of_list (TRl.toV this) fun j u hu => ?_
      have hz : r.length = z := h6 r (List.mem_of_getElem? hr)
      have hj : j < z := by
        rcases Nat.lt_or_ge j z with h | h
        · exact h
        · rw [List.getElem?_take, if_neg (by omega)] at hu; simp at hu
      rw [List.getElem?_take, if_pos hj, List.getElem?_drop, List.getElem?_take] at hu
      have hlt2 : i * z + j < xs.length * z := by
        have : (i + 1) * z ≤ xs.length * z := Nat.mul_le_mul_right _ hlt
        rw [Nat.add_mul] at this
        omega
      rw [if_pos hlt2] at hu
      simp [World.cell?, h2, ← Array.getElem?_toList, hu]
  · simp at hc
end
end Go.Ai
