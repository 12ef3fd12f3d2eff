/- An interpreter of the language over data, and the proof that what it answers is what the machine does; no condition. -/
import Derived.Test.YtdojjjjhbgkpfaaAiI
set_option linter.unusedVariables false
set_option linter.unusedSimpArgs false
namespace Go.Ai
open Go.RowKit
/-! ## A loop over a function: the rule -/
def Blk.cellsK : Blk → Prop
  | .box _ _ | .rows _ _ _ | .capd _ _ _ => True
  | _ => False
def cellsOnly (σ : List Blk) : Prop := ∀ k ∈ σ, k.cellsK
section
variable {P : Program} {β β0 : Nat → Option BV} {I I0 : Imm} {σ : List Blk} {w w0 w' : World}
theorem owned_cells (hi : Inv β I σ w) (hc : cellsOnly σ) {t : Nat} {x : Bl} (hx : β t = some (.real x)) : ∃ cs e, w.heap[x.b]? = some (.cells cs e (0, 0)) := by
  obtain ⟨k, hk, _⟩ := hi.live t _ hx
  have hb := hi.blk t k hk
  have hck := hc k (List.mem_of_getElem? hk)
  cases k with
  | box cells ro =>
    simp only [BlkR] at hb
    obtain ⟨b, cs, e, h1, h2, _⟩ := hb
    rw [hx] at h1; cases h1
    exact ⟨cs, e, h2⟩
  | rows z xs ro =>
    simp only [BlkR] at hb
    rcases hb with ⟨h1, _⟩ | ⟨b, cap, cs, e, h1, h2, _⟩
    · rw [hx] at h1; cases h1
    · rw [hx] at h1; cases h1
      exact ⟨cs, e, h2⟩
  | capd z xs k =>
    simp only [BlkR] at hb
    obtain ⟨b, cs, e, h1, h2, _⟩ := hb
    rw [hx] at h1; cases h1
    exact ⟨cs, e, h2⟩
  | dead => exact hck.elim
  | mp _ _ => exact hck.elim
  | it _ _ _ _ => exact hck.elim
theorem owned_ne (hi : Inv β I σ w) (hc : cellsOnly σ) {t : Nat} {x : Bl} (hx : β t = some (.real x)) {r : Nat} {o : Obj} (hr : w.heap[r]? = some o) (ho : o.isCells = false) : x.b ≠ r := by
  obtain ⟨cs, e, h⟩ := owned_cells hi hc hx
  intro e'
  rw [e', hr] at h
  cases h
  simp [Obj.isCells] at ho
theorem imm_ne (hi : Inv β I σ w) {b o' : Nat} {v : Value} (hv : I b o' = some v) {r : Nat} {o : Obj} (hr : w.heap[r]? = some o) (ho : o.isCells = false) : b ≠ r := by
  have hc := hi.imm b o' v hv
  intro e
  subst e
  cases o <;> simp_all [World.cell?, Obj.isCells]
theorem Inv.grown (hi : Inv β I σ w) (hc : cellsOnly σ) {row : Option Nat} (hg : w.grownBy w' row) (hr : ∀ r, row = some r → ∃ o : Obj, w.heap[r]? = some o ∧ o.isCells = false) : Inv β I σ w' where
  imm := fun b o v hv => by
    rw [cell_of_heap (hg.block b (hi.ilt hv) (fun e => by
      obtain ⟨o', h1, h2⟩ := hr b e.symm
      exact imm_ne hi hv h1 h2 rfl))]
    exact hi.imm b o v hv
  blk := fun t k hk => BlkR.mono (Keeps.refl β) (fun _ _ _ h => h) (hi.blk t k hk) (fun y hy => hg.block _ (hi.blt hy) (fun e => by
      obtain ⟨o', h1, h2⟩ := hr _ e.symm
      exact owned_ne hi hc hy h1 h2 rfl)) (fun _ _ _ h => h)
  live := fun t y hy => by
    obtain ⟨k, h1, h2⟩ := hi.live t y hy
    exact ⟨k, h1, fun z e => Nat.lt_of_lt_of_le (h2 z e) hg.size⟩
  inj := hi.inj
theorem Step.grown (h : Step β0 I0 w0 β I w) {row : Option Nat} (hg : w.grownBy w' row) (hr : ∀ r, row = some r → w0.heap.size ≤ r) : Step β0 I0 w0 β I w' where
  os := hg.os.trans h.os
  tape := hg.tape.trans h.tape
  output := hg.output.trans h.output
  size := Nat.le_trans h.size hg.size
  frame := fun b hb hn => by
    rw [hg.block b (Nat.lt_of_lt_of_le hb h.size) (fun e => by have := hr b e.symm; omega)]
    exact h.frame b hb hn
  mono := h.mono
  fresh := h.fresh
  tags := h.tags
theorem Step.others (hi : Inv β0 I0 σ w0) (hc : cellsOnly σ) (h : Step β0 I0 w0 β I w) : KeepsOthers w0 w where
  size := h.size
  same := fun k o hk ho => by
    rw [h.frame k (Array.getElem?_eq_some_iff.1 hk).1 (fun t x hx => owned_ne hi hc hx hk ho)]
    exact hk
/-- What a round must leave of what nobody changes. -/
def KpI (I0 : Imm) (W W' : World) : Prop := ∀ b o v, I0 b o = some v → W.cell? ⟨b, o, none⟩ = some v → W'.cell? ⟨b, o, none⟩ = some v
theorem KpI.trans {A B C : World} (h : KpI I0 A B) (k : KpI I0 B C) : KpI I0 A C := fun b o v hv ha => k b o v hv (h b o v hv ha)
theorem KpI.put {W : World} {l : Nat} {o : Obj} (hl : W.heap[l]? = some o) (ho : o.isCells = false) (o' : Obj) : KpI I0 W (W.putObj l o') := fun b off v hv hc => by
  have hne : b ≠ l := fun e => by subst e; cases o <;> simp_all [World.cell?, Obj.isCells]
  rw [cell_of_heap (World.putObj_heap_other hne)]
  exact hc
/-- A LOOP OVER A FUNCTION, one loop variable that is moved: the iterator's contract, what holds between two rounds, one round. -/
theorem rangeBy_mv {α : Type} {g : Operand} {ps : Array Tmp} {body : Code} {S : St} {gf : Nat} {lbV : List V} {asg : Code} {p0 p1 : Tmp} (tmK : Nat → V) (M : List Nat) (J : List α → List Blk → Prop) (Sx : List α → Prop) (Nx : Nat) (enc : α → V)
    (hg : evS S.tm g = .clo (.func gf) [] lbV) (hcall : callable P gf = true) (hps : ps = #[p0]) (hp1 : ∀ N, codeOKr N asg = true → p1 < N) (has : ∀ (F : Fence) (m : Nat) (tmps : Array Value) (W : World) (K : Act → World → Prop), K { tmps := tmps.setIfInBounds p1 (tmps.getD p0 undef), defers := [] } W → asg.wpIn F m P (Exit.then K fun _ _ _ => False) { tmps := tmps, defers := [] } W) (htm : ∀ i, tmK i = S.tm i ∨ tmK i = .undef)
    (hM : ∀ mv : List Nat, (∀ t ∈ mv, t ∈ M ∨ S.σ.length ≤ t) → ∀ i, (tmK i).pz mv = tmK i) (hJc : ∀ pre σ, J pre σ → cellsOnly σ) (h0 : J [] S.σ)
    (hseq : ∀ β I w lb, Inv β I S.σ w → VRs β I lbV lb → ∃ encs : α → Value, (∀ β' I', (∀ b o v, I b o = some v → I' b o = some v) → ∀ x, VR β' I' (enc x) (encs x)) ∧ SeqStopsK Fence.wide 2 P gf lb.toArray (fun x => #[encs x]) (KpI I) Sx (fun _ => True) Nx w)
    (hbody : ∀ pre x σ, J pre σ → pre.length < Nx → awp P body (fun c S' => c = .normal ∧ ∃ σ1 mv1, J (pre ++ [x]) σ1 ∧ (∀ t ∈ mv1, t ∈ M ∨ S.σ.length ≤ t) ∧ Weak S' ⟨fun _ => .undef, σ1, mv1⟩) ⟨upd (upd tmK p0 (enc x)) p1 (enc x), σ, []⟩) :
    RangeBy P g ps asg body S (fun S' => ∃ xs σ mv, Sx xs ∧ J xs σ ∧ S' = ⟨tmK, σ, mv⟩) := by
  intro N B Qx a w hmix hokA hokB hokP hR hQ
  subst hps
  have hp0 : p0 < N := by simpa using hokP
  have hq1 : p1 < N := hp1 N hokA
  obtain ⟨hsz, hdf, β, I, hi, hvr, hst, hk⟩ := hR
  have hev := evS_rel hvr g
  rw [hg] at hev
  simp only [VR] at hev
  obtain ⟨fv, cv, he, hf, hc⟩ := hev
  have hf0 : fv = #[] := by
    cases fv with | mk l => cases l with
      | nil => rfl
      | cons a b => simp [VRs] at hf
  subst hf0
  obtain ⟨encs, henc, hsq⟩ := hseq β I w cv.toList hi hc
  have htv : ∀ i, VR β I (tmK i) (a.tmps.getD i undef) := fun i => by
    rcases htm i with h | h
    · rw [h]; exact hvr i
    · rw [h]; simp [VR]
  let IW : List α → World → Prop := fun pre W => ∃ β1 I1 σ1 mv, Inv β1 I1 σ1 W ∧ (∀ i, VR β1 I1 (tmK i) (a.tmps.getD i undef)) ∧ Step B.β B.I B.w β1 I1 W ∧ Keeps (S.mv ++ mv) B.β β1 ∧ (∀ t ∈ mv, t ∈ M ∨ S.σ.length ≤ t) ∧ J pre σ1 ∧ (∀ b o v, I b o = some v → I1 b o = some v)
  have hOwn : OwnFrom w.heap.size IW := by
    rintro pre W W' row ⟨β1, I1, σ1, mv, h1, h2, h3, h4, h5, h6, h7⟩ hgr hr
    refine ⟨β1, I1, σ1, mv, h1.grown (hJc _ _ h6) hgr (fun r e => (hr r e).2), h2, h3.grown hgr (fun r e => Nat.le_trans hst.size (hr r e).1), h4, h5, h6, h7⟩
  refine wpIn_wide.1 (wpIn_rangeFunc_ownF (F := Fence.wide) (n := 3) (encs := fun x => #[encs x]) (Kp := KpI I) (S := Sx) (Sp := fun _ => True) (N := Nx) (w0 := w) rfl (by decide) (gf := gf) (lb := cv) he trivial (run_callFunc hcall) (by simpa using hsq) (fun {A B C} h k => KpI.trans h k) (fun W l o o' _ h1 h2 _ => KpI.put h1 h2 o') (Below.refl _ _) (fun _ => rfl) IW (fun _ _ _ => False) hOwn (fun _ _ _ _ _ h _ _ => h)
    ⟨β, I, S.σ, [], hi, htv, hst, by simpa using hk, by simp, h0, fun _ _ _ h => h⟩ (fun x => { tmps := (a.tmps.setIfInBounds p0 (encs x)).setIfInBounds p1 (encs x), defers := [] }) ?_ ?_ ?_ ?_)
  · intro l x W K hK
    have hg0 : (a.tmps.setIfInBounds p0 (encs x)).getD p0 undef = encs x := by
      rw [Array.getD_eq_getD_getElem?, Array.getElem?_setIfInBounds_self_of_lt (by rw [hsz]; exact hp0)]
      rfl
    have := has (Fence.wide.inRound l) (3 - 1 - 1) (a.tmps.setIfInBounds p0 (encs x)) W K (by rw [hg0]; exact hK)
    simpa using this
  · rintro l pre x W ⟨β1, I1, σ1, mv, h1, h2, h3, h4, h5, h6, h7⟩ hlen
    have hrel : Rel N ⟨β1, I1, W, [], []⟩ ⟨upd (upd tmK p0 (enc x)) p1 (enc x), σ1, []⟩ { tmps := (a.tmps.setIfInBounds p0 (encs x)).setIfInBounds p1 (encs x), defers := [] } W := by
      refine ⟨by simpa using hsz, ⟨rfl, fun t ht => by cases ht⟩, β1, I1, h1, fun i => ?_, Step.refl _ _ _, Keeps.refl _⟩
      show VR β1 I1 (upd (upd tmK p0 (enc x)) p1 (enc x) i) (((a.tmps.setIfInBounds p0 (encs x)).setIfInBounds p1 (encs x)).getD i undef)
      unfold upd
      by_cases e1 : i = p1
      · subst e1
        rw [if_pos rfl]
        have hlt : i < (a.tmps.setIfInBounds p0 (encs x)).size := by rw [Array.size_setIfInBounds, hsz]; exact hq1
        have : ((a.tmps.setIfInBounds p0 (encs x)).setIfInBounds i (encs x)).getD i undef = encs x := by
          rw [Array.getD_eq_getD_getElem?, Array.getElem?_setIfInBounds_self_of_lt hlt]
          rfl
        rw [this]
        exact henc β1 I1 h7 x
      rw [if_neg e1]
      have t1 : ((a.tmps.setIfInBounds p0 (encs x)).setIfInBounds p1 (encs x)).getD i undef = (a.tmps.setIfInBounds p0 (encs x)).getD i undef := by
        rw [Array.getD_eq_getD_getElem?, Array.getElem?_setIfInBounds_ne (Ne.symm e1), ← Array.getD_eq_getD_getElem?]
      rw [t1]
      by_cases e : i = p0
      · subst e
        rw [if_pos rfl]
        have hlt : i < a.tmps.size := by rw [hsz]; exact hp0
        have : (a.tmps.setIfInBounds i (encs x)).getD i undef = encs x := by
          rw [Array.getD_eq_getD_getElem?, Array.getElem?_setIfInBounds_self_of_lt hlt]
          rfl
        rw [this]
        exact henc β1 I1 h7 x
      · rw [if_neg e]
        have : (a.tmps.setIfInBounds p0 (encs x)).getD i undef = a.tmps.getD i undef := by
          rw [Array.getD_eq_getD_getElem?, Array.getElem?_setIfInBounds_ne (Ne.symm e), ← Array.getD_eq_getD_getElem?]
        rw [this]
        exact h2 i
    refine wpIn_mono (awp_soundIn body _ _ _ W hokB hrel (hbody pre x σ1 h6 hlen)) fun e a' W' ⟨c, S', hcr, hR', hc', σ2, mv1, g1, g2, g3⟩ => ?_
    subst hc'
    cases e with
    | normal =>
      obtain ⟨_, _, β2, I2, k1, k2, k3, k4⟩ := hR'.weak g3
      refine ⟨k3.others h1 (hJc _ _ h6), fun b o v hv _ => k1.imm b o v (k3.mono b o v (h7 b o v hv)), β2, I2, σ2, mv ++ mv1, k1, fun i => ?_, h3.trans k3, ?_, ?_, g1, fun b o v hv => k3.mono b o v (h7 b o v hv)⟩
      · have := VR.keep k4 k3.mono _ _ (h2 i)
        rwa [hM mv1 g2 i] at this
      · rw [← List.append_assoc]
        exact h4.trans k4
      · intro t ht
        rcases List.mem_append.1 ht with ht | ht
        · exact h5 t ht
        · exact g2 t ht
    | _ => exact hcr.elim
  · rintro D xs W hD hS ⟨β1, I1, σ1, mv, h1, h2, h3, h4, h5, h6, h7⟩ hK
    refine hQ ⟨β1, I1, W, coll D :: B.ds, S.mv ++ mv⟩ ⟨tmK, σ1, S.mv ++ mv⟩ _ W ⟨⟨[D], rfl, by simp, fun D' hD' => ?_⟩, h3, h4, fun t ht => List.mem_append_left _ (hdf.2 t ht)⟩ ⟨hsz, ⟨by show _ :: a.defers = _; rw [hdf.1]; rfl, fun t ht => ht⟩, β1, I1, h1, h2, Step.refl _ _ _, fun _ _ h _ => h⟩ ⟨xs, σ1, _, hS, h6, rfl⟩
    obtain rfl : D' = D := by simpa using hD'
    exact ⟨Nat.le_trans hst.size hD, hK, fun t x hx => owned_ne h1 (hJc _ _ h6) hx hK rfl⟩
  · intro D c pre W _ _ h _
    exact h.elim
end
end Go.Ai
