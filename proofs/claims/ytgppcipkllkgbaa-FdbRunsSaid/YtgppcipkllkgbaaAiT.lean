/- A part of an interpreter of the language over data, and the proof that what it answers is what the machine does; no condition. -/
import Derived.Test.YtgppcipkllkgbaaAiN
import Derived.Shelf.SlSortCmp.WholeK
set_option linter.unusedVariables false
set_option linter.unusedSimpArgs false
namespace Go.Ai
open Go.Shelf Go.RowKit Go.Lib Go.Sort Go.Proofs

/-! ## slices.SortFunc, by the shelf's contract -/
section
variable {P : Program} {ρ : Ren} {α : Type} [Inhabited α]

theorem VRs_vals {β : Nat → Option BV} {I : Imm} : ∀ {vs : List Value}, (∀ v ∈ vs, scalar v = true) → VRs β I (vs.map V.s) vs
  | [], _ => by simp [VRs]
  | v :: vs, h => by
    simp only [List.map_cons, VRs, VR]
    exact ⟨⟨trivial, h v (by simp)⟩, VRs_vals fun u hu => h u (by simp [hu])⟩
theorem TRl_vals {I : Imm} : ∀ {vs : List Value}, (∀ v ∈ vs, scalar v = true) → TRl I (vs.map T.s) vs
  | [], _ => by simp [TRl]
  | v :: vs, h => by
    simp only [List.map_cons, TRl, TR]
    exact ⟨⟨trivial, h v (by simp)⟩, TRl_vals fun u hu => h u (by simp [hu])⟩
theorem TRl_vals_eq {I : Imm} : ∀ {vs cs : List Value}, TRl I (vs.map T.s) cs → cs = vs
  | [], [], _ => rfl
  | v :: vs, c :: cs, h => by
    simp only [List.map_cons, TRl, TR] at h
    rw [h.1.1, TRl_vals_eq h.2]
  | [], _ :: _, h => by simp [TRl] at h
  | _ :: _, [], h => by simp [TRl] at h

theorem grow_of_step {I I' : Imm} {β' : Nat → Option BV} {W w' : World} (h : Step (fun _ => none) I W β' I' w') : ∃ q os', w' = grow (W.drewN q) os' := by
  refine ⟨w'.drawn - W.drawn, w'.heap.extract W.heap.size w'.heap.size, ?_⟩
  have hd := h.drawn
  have e1 : w'.heap = W.heap ++ w'.heap.extract W.heap.size w'.heap.size := by
    have hs := h.size
    apply Array.ext_getElem?
    intro i
    rw [Array.getElem?_append]
    by_cases hi : i < W.heap.size
    · rw [if_pos hi]
      exact h.frame i hi (fun t x hx => by cases hx)
    · rw [if_neg hi, Array.getElem?_extract]
      by_cases h2 : i < w'.heap.size
      · rw [if_pos (by omega)]
        congr 1
        omega
      · rw [if_neg (by omega), Array.getElem?_eq_none (by omega)]
  have ht := h.tape
  have ho := h.os
  have hu := h.output
  cases w' with
  | mk heap tape drawn os output =>
    simp only at e1 ht ho hu hd ⊢
    unfold grow World.drewN
    rw [show W.drawn + (drawn - W.drawn) = drawn by omega]
    rw [← e1, ← ht, ← ho, ← hu]

theorem cmp_lays {g : FuncId} {enc : α → List Value} {cf : α → α → Int} (hs : ∀ x, ∀ v ∈ enc x, scalar v = true) (h : ∀ x y, AC P g [.agg ((enc x).map V.s), .agg ((enc y).map V.s)] [] (eqR (.s (.int .i64 (cf x y))))) (k blk off size : Nat) (w : World) :
    CmpLays P g #[] enc k cf blk off size w := by
  intro m os dk _ x y
  have hc := (h x y).2 (fun _ => none) (fun _ _ => none) (sortWorldK enc k w blk off m dk os) [.agg (enc x).toArray, .agg (enc y).toArray]
    ⟨fun b o v hv => (by cases hv), fun t k hk => (by simp at hk), fun t x hx => (by cases hx), fun t t' x x' hx => (by cases hx)⟩
    (by simp only [VRs, VR]; exact ⟨⟨_, rfl, VRs_vals (hs x)⟩, ⟨_, rfl, VRs_vals (hs y)⟩, trivial⟩)
  refine hc.mono fun e w' hp => ?_
  obtain ⟨c, β', I', r, σ', mv, rfl, ⟨rfl, _, _⟩, hv, _, hst, _⟩ := hp
  simp only [VR] at hv
  obtain ⟨rfl, _⟩ := hv
  exact ⟨rfl, grow_of_step hst⟩

/-- Rows of scalars. -/
abbrev rowT (enc : α → List Value) (x : α) : List T := (enc x).map T.s

omit [Inhabited α] in
theorem flat_rows (enc : α → List Value) : ∀ l : List α, (l.map (rowT enc)).flatten = (l.flatMap enc).map T.s
  | [] => rfl
  | x :: l => by simp [flat_rows enc l, List.flatMap_cons]
theorem flatMap_get {enc : α → List Value} {k : Nat} (hk : ∀ x, (enc x).length = k) : ∀ (l : List α) (i : Nat), i < l.length * k → (l.flatMap enc)[i]? = some (enc (l.toArray[i / k]!))[i % k]!
  | [], i, h => by simp at h
  | x :: l, i, h => by
    have k0 : 0 < k := by rcases Nat.eq_zero_or_pos k with h0 | h0; · subst h0; simp at h
                          · exact h0
    rw [List.flatMap_cons]
    by_cases hi : i < k
    · rw [List.getElem?_append_left (by rw [hk]; exact hi), Nat.div_eq_of_lt hi, Nat.mod_eq_of_lt hi]
      have : i < (enc x).length := by rw [hk]; exact hi
      simp [this]
    · rw [List.getElem?_append_right (by rw [hk]; omega), hk, flatMap_get hk l (i - k) (by simp [Nat.add_mul] at h; omega)]
      have e1 : i / k = (i - k) / k + 1 := by rw [Nat.div_eq_sub_div k0 (by omega)]
      have e2 : i % k = (i - k) % k := by rw [Nat.mod_eq_sub_mod (by omega)]
      rw [e1, e2]
      simp

theorem flatK_list {enc : α → List Value} {k : Nat} (hk : ∀ x, (enc x).length = k) (l : List α) : (flatK enc k l.toArray).toList = l.flatMap enc := by
  apply List.ext_getElem?
  intro i
  have hl : (l.flatMap enc).length = l.length * k := by
    induction l with
    | nil => simp
    | cons x l ih => rw [List.flatMap_cons, List.length_append, hk, ih, List.length_cons, Nat.add_mul]; omega
  by_cases hi : i < l.length * k
  · rw [flatMap_get hk l i hi, Array.getElem?_toList]
    have hs : i < (flatK enc k l.toArray).size := by simp; exact hi
    rw [Array.getElem?_eq_getElem hs, ← getElem!_pos (flatK enc k l.toArray) i hs, get_flatK enc k l.toArray i (by simp; exact hi)]
  · rw [Array.getElem?_toList, Array.getElem?_eq_none (by simp; omega), List.getElem?_eq_none (by rw [hl]; omega)]

omit [Inhabited α] in
theorem flatMap_len {enc : α → List Value} {k : Nat} (hk : ∀ x, (enc x).length = k) : ∀ l : List α, (l.flatMap enc).length = l.length * k
  | [] => by simp
  | x :: l => by rw [List.flatMap_cons, List.length_append, hk, flatMap_len hk l, List.length_cons, Nat.add_mul]; omega

/-- A ROW OF ONE'S OWN IS SORTED: a permutation of what it held, in order. -/
theorem AC_sort (L : SlLaysF0.n6 P ρ) {k : Nat} (aE : ∀ w, (Go.isAgg (ρ.t 24)).run P w = .ok true w) (zE : ∀ w, (Go.sizeOf (ρ.t 24)).run P w = .ok k w) {enc : α → List Value} (hk : ∀ x, (enc x).length = k) (hs : ∀ x, ∀ v ∈ enc x, scalar v = true)
    {cf : α → α → Int} (hO : SWO (ltOf cf)) {g : FuncId} (hg : callable P g = true) (hc6 : callable P (ρ.f 6) = true) (hcmp : ∀ x y, AC P g [.agg ((enc x).map V.s), .agg ((enc y).map V.s)] [] (eqR (.s (.int .i64 (cf x y)))))
    {t : Nat} {σ : List Blk} {xs : List α} (hne : xs ≠ []) (hsz : xs.length < 4611686018427387904) (hσ : σ[t]? = some (.rows k (xs.map (rowT enc)) false)) :
    AC P (ρ.f 6) [.own t 0 xs.length, .clo (.func g) [] []] σ (fun r σ' mv => r = .tuple [] ∧ mv = [] ∧ ∃ ys : List α, ys.Perm xs ∧ ys.Pairwise (fun a b => ltOf cf b a = false) ∧ σ' = σ.set t (.rows k (ys.map (rowT enc)) false)) := by
  refine ⟨hc6, fun β I w vs hi hv => ?_⟩
  have hpos : 0 < xs.length := List.length_pos_iff.2 hne
  match vs, hv with
  | [c1, c2], hv =>
    simp only [VRs, VR] at hv
    obtain ⟨h1, ⟨fv, cv, rfl, hf, hc⟩, _⟩ := hv
    have hf0 : fv = #[] := by
      cases fv with | mk l => cases l with
        | nil => rfl
        | cons a b => simp [VRs] at hf
    have hc0 : cv = #[] := by
      cases cv with | mk l => cases l with
        | nil => rfl
        | cons a b => simp [VRs] at hc
    subst hf0 hc0
    have hb := hi.blk t _ hσ
    simp only [BlkR, List.length_map] at hb
    rcases hb with ⟨_, hb⟩ | ⟨b, cap, cs, e, hb1, hb2, hb3, hb4, hb5, hb6, hb7, hb8⟩
    · exact (hne (List.map_eq_nil_iff.1 hb)).elim
    have hblt := hi.blt hb1
    have hI : ∀ o, I b o = none := fun o => hb8 o (.inl trivial)
    have hc1 : c1 = .slice (some ⟨b, 0, none⟩) xs.length cap := by
      rcases h1 with ⟨x, g1, g2⟩ | ⟨g1, _, g3, _⟩
      · rw [hb1] at g1
        cases g1
        rcases g2 with ⟨_, g2⟩ | ⟨g2, _⟩
        · simpa using g2
        · omega
      · omega
    subst hc1
    -- the row's cells
    have hflat : (xs.map (rowT enc)).flatten = (xs.flatMap enc).map T.s := flat_rows enc xs
    rw [hflat] at hb7
    have hcells := TRl_vals_eq hb7
    have hle : xs.length * k ≤ cs.size := by rw [hb3]; exact Nat.mul_le_mul_right k hb4
    have hH : HoldsK enc k w b 0 xs.toArray := by
      intro j hj
      have hj' : j < xs.length * k := by simpa using hj
      have hjc : j < cs.size := by omega
      have e1 : cs[j]? = (xs.flatMap enc)[j]? := by
        rw [← hcells, List.getElem?_take, if_pos hj', Array.getElem?_toList]
      refine ⟨?_, ?_⟩
      · simp only [World.cell?, hb2, Nat.zero_add]
        rw [get_flatK enc k xs.toArray j (by simpa using hj')]
        simp only [Option.isSome_none, Bool.false_eq_true, if_false, id]
        rw [e1, flatMap_get hk xs j hj']
      · simp [World.frozen?, hb2]
    have hcon := AnyQ.slices_SortFunc L k aE zE enc hk (fun x v hv => scalar_one (hs x v hv)) cf hO g #[] b 0 cap xs.toArray w (run_callFunc hg) (cmp_lays hs hcmp k b 0 _ w) hH hblt (by simpa using hsz)
    have hargs : ([.slice (some ⟨b, 0, none⟩) xs.length cap, .func (.func g) #[] #[]] : List Value).toArray = #[.slice (some ⟨b, 0, none⟩) xs.toArray.size cap, .func (.func g) #[] #[]] := by simp
    rw [hargs]
    refine hcon.mono fun e' w' hp => ?_
    obtain ⟨rfl, d', n, os, hperm, hsort, rfl⟩ := hp
    have hds : d'.size = xs.length := by simpa using hperm.1
    have hp2 : d'.toList.Perm xs := by
      have := hperm.2.2
      have e1 : d'.extract 0 xs.toArray.size = d' := by
        rw [show xs.toArray.size = d'.size by simp [hds]]; simp
      rw [e1] at this
      simpa using this
    have hw : (sortWorldK enc k w b 0 n d' os).heap = (w.heap.modify b (onCells (putCells id 0 (flatK enc k d')))) ++ os := by
      rfl
    have hnew : (sortWorldK enc k w b 0 n d' os).heap[b]? = some (.cells (putCells id 0 (flatK enc k d') cs) e (0, 0)) := by
      rw [hw, Array.getElem?_append, if_pos (by simpa using hblt), Array.getElem?_modify, if_pos rfl, hb2]
      rfl
    have hold : ∀ b', b' < w.heap.size → b' ≠ b → (sortWorldK enc k w b 0 n d' os).heap[b']? = w.heap[b']? := by
      intro b' hb' hne
      rw [hw, Array.getElem?_append, if_pos (by simpa using hb'), Array.getElem?_modify, if_neg (Ne.symm hne)]
    have hsize : w.heap.size ≤ (sortWorldK enc k w b 0 n d' os).heap.size := by
      rw [hw]; simp
    have hput : (putCells id 0 (flatK enc k d') cs).toList.take (d'.toList.length * k) = d'.toList.flatMap enc := by
      apply List.ext_getElem?
      intro i
      have hfl := flatMap_len hk d'.toList
      by_cases hi' : i < d'.toList.length * k
      · rw [List.getElem?_take, if_pos hi', Array.getElem?_toList, flatMap_get hk d'.toList i hi']
        have hil : i < d'.size * k := by simpa using hi'
        have hic : i < cs.size := by rw [hds] at hil; omega
        simp only [putCells, Array.getElem?_mapIdx]
        rw [Array.getElem?_eq_getElem hic, Option.map_some, if_pos ⟨Nat.zero_le _, by simpa using hil⟩, Nat.sub_zero, get_flatK enc k d' i hil]
        rfl
      · rw [List.getElem?_eq_none (by rw [List.length_take]; omega), List.getElem?_eq_none (by rw [hfl]; omega)]
    refine ⟨.tuple #[], β, I, .tuple [], σ.set t (.rows k (d'.toList.map (rowT enc)) false), [], rfl, ⟨rfl, rfl, d'.toList, hp2, ?_, rfl⟩, by simp [VR, VRs], ?_, ?_, Keeps.refl β⟩
    · rw [List.pairwise_iff_getElem]
      intro i j hi' hj' hij
      simp only [Array.length_toList] at hi' hj'
      have := hsort i j (Nat.zero_le _) hij (by simpa [hds] using hj')
      rw [getElem!_pos d' j hj', getElem!_pos d' i hi'] at this
      simpa using this
    · refine hi.upd hb1 hsize hold (fun o v hv => by rw [hI o] at hv; cases hv) _ ?_
      simp only [BlkR]
      refine .inr ⟨b, cap, _, e, hb1, hnew, by simp [putCells, hb3], by rw [List.length_map, hp2.length_eq]; exact hb4, hb5, ?_, ?_, fun o _ => hI o⟩
      · intro r hr
        obtain ⟨x, _, rfl⟩ := List.mem_map.1 hr
        simp [hk]
      · rw [flat_rows, List.length_map, hput]
        exact TRl_vals fun v hv => by
          obtain ⟨x, _, hx⟩ := List.mem_flatMap.1 hv
          exact hs x v hx
    · exact Step.upd hb1 rfl rfl rfl hsize hold (Nat.le_add_right _ _)

end
end Go.Ai
