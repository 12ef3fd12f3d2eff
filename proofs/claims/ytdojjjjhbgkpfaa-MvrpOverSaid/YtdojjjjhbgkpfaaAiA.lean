/- An interpreter of the language over data, and the proof that what it answers is what the machine does; no condition. -/
import Derived.Test.YtdojjjjhbgkpfaaAiF
import Derived.RangeFuncLeaves
import Derived.RangeFuncFrom
set_option linter.unusedVariables false
set_option linter.unusedSimpArgs false
namespace Go.Ai
/-! ## A function's contract out of its text -/
def ares (P : Program) (tm : Nat → V) (σ : List Blk) : List ResultVar → Option (List V)
  | [] => some []
  | .tmp t :: r => match ares P tm σ r with
    | some vs => some (tm t :: vs)
    | none => none
  | .cell a t :: r => match aload P σ t (tm a), ares P tm σ r with
    | some v, some vs => some (v :: vs)
    | _, _ => none
def mkRes : List V → V
  | [v] => v
  | vs => .tuple vs
def Done : Ctl → Prop
  | .normal => True
  | .ret => True
  | .exit _ => False
def expo (base : Nat) (fz : Bool) (kept : List Nat) (σ : List Blk) (v : V) : Option (V × List Blk) :=
  match (if fz then frzV false σ v else some (v, σ)) with
  | some (v1, σ1) => compact base kept σ1 v1
  | none => none
def Post (P : Program) (base : Nat) (rs : List ResultVar) (R : V → List Blk → List Nat → Prop) : Ctl → St → Prop := fun c S =>
  Done c ∧ ∃ vs, ares P S.tm S.σ rs = some vs ∧ ∃ fz kept r σ', expo base fz kept S.σ (mkRes vs) = some (r, σ') ∧ R r σ' (S.mv.filter (· < base))
section
variable {P : Program}
def resSem (a : Act) : ResultVar → Sem Value
  | .tmp t => Pure.pure (a.tmps.getD t undef)
  | .cell x t => do loadVar t (← asAddr (a.tmps.getD x undef))
theorem ares_sound {β : Nat → Option BV} {I : Imm} {w : World} {S : St} {a : Act} (hi : Inv β I S.σ w) (htm : ∀ i, VR β I (S.tm i) (a.tmps.getD i undef)) : ∀ {rs : List ResultVar} {vs : List V}, ares P S.tm S.σ rs = some vs →
    ∃ cs, (rs.mapM (resSem a)).run P w = .ok cs w ∧ VRs β I vs cs
  | [], vs, h => by simp only [ares, Option.some.injEq] at h; subst h; exact ⟨[], by simp, by simp [VRs]⟩
  | .tmp t :: r, vs, h => by
    simp only [ares] at h
    split at h
    · rename_i vs' h1
      simp at h
      subst h
      obtain ⟨cs, h2, h3⟩ := ares_sound hi htm h1
      exact ⟨a.tmps.getD t undef :: cs, by simp [List.mapM_cons, h2, resSem], by simp only [VRs]; exact ⟨htm t, h3⟩⟩
    · simp at h
  | .cell x t :: r, vs, h => by
    simp only [ares] at h
    split at h
    · rename_i v vs' h0 h1
      simp at h
      subst h
      obtain ⟨cs, h2, h3⟩ := ares_sound hi htm h1
      obtain ⟨c, h4, h5⟩ := aload_sound hi h0 (htm x)
      refine ⟨c :: cs, ?_, by simp only [VRs]; exact ⟨h5, h3⟩⟩
      have h6 : (resSem a (.cell x t)).run P w = .ok c w := by
        show (asAddr (a.tmps.getD x undef) >>= fun ad => loadVar t ad).run P w = _
        have hx := htm x
        unfold aload at h0
        split at h0
        · rename_i tag i o he
          rw [he] at hx
          simp only [VR] at hx
          obtain ⟨y, _, e⟩ := hx
          rw [e] at h4 ⊢
          simpa [Instr.loadAt, Instr.sureAddr, asAddr] using h4
        · rename_i cs' he
          rw [he] at hx
          simp only [VR] at hx
          obtain ⟨b, o, e, _⟩ := hx
          rw [e] at h4 ⊢
          simpa [Instr.loadAt, Instr.sureAddr, asAddr] using h4
        · simp at h0
      simp [List.mapM_cons, h2, h6]
    · simp at h
theorem results_sound {β : Nat → Option BV} {I : Imm} {w : World} {S : St} {a : Act} {fn : Func} (hi : Inv β I S.σ w) (htm : ∀ i, VR β I (S.tm i) (a.tmps.getD i undef)) {vs : List V} (h : ares P S.tm S.σ fn.results.toList = some vs) :
    ∃ c, (results fn a.tmps).run P w = .ok c w ∧ VR β I (mkRes vs) c := by
  obtain ⟨cs, h1, h2⟩ := ares_sound hi htm h
  refine ⟨if h : cs.toArray.size = 1 then cs.toArray[0] else .tuple cs.toArray, ?_, ?_⟩
  · have hres : results fn a.tmps = (fn.results.mapM (resSem a) >>= fun vs => Pure.pure (if h : vs.size = 1 then vs[0] else .tuple vs)) := by
      unfold results
      rfl
    rw [hres]
    simp only [Array.mapM_eq_mapM_toList, Sem.run_bind, Sem.run_map, h1]
    simp
  · have hl := h2.length
    match vs, cs, h2, hl with
    | [], [], _, _ => simp [mkRes, VR, VRs]
    | [v], [c], h2, _ => simp only [VRs] at h2; simpa [mkRes] using h2.1
    | v :: u :: vs, c :: d :: cs, h2, _ =>
      simp only [mkRes, VR]
      exact ⟨(c :: d :: cs).toArray, by simp, h2⟩
theorem expo_sound {β : Nat → Option BV} {I : Imm} {w : World} {σ σ' : List Blk} {base : Nat} {fz : Bool} {kept : List Nat} {v r : V} {c : Value} (hi : Inv β I σ w) (h : expo base fz kept σ v = some (r, σ')) (hv : VR β I v c) :
    ∃ β' I', Inv β' I' σ' w ∧ Step β I w β' I' w ∧ VR β' I' r c ∧ ∀ t x, t < base → β t = some x → β' t = some x := by
  unfold expo at h
  cases fz with
  | false =>
    simp only [Bool.false_eq_true, if_false] at h
    obtain ⟨β', h1, h2, h3, h4⟩ := compact_sound hi h hv
    exact ⟨β', I, h1, h2, h3, h4⟩
  | true =>
    simp only [if_true] at h
    split at h
    · rename_i v1 σ1 h1
      obtain ⟨I1, i1, s1, t1⟩ := frzV_sound v hi h1 hv
      obtain ⟨β', h2, h3, h4, h5⟩ := compact_sound i1 h (t1 β)
      exact ⟨β', I1, h2, s1.trans h3, h4, h5⟩
    · simp at h
theorem Inv.defd {β : Nat → Option BV} {I : Imm} {σ : List Blk} {w : World} (hi : Inv β I σ w) {D : Nat} {x : Option (List Deferred)} (hD : w.heap[D]? = some (.deferred x)) (hn : ∀ t y, β t = some (.real y) → y.b ≠ D) (o : Obj) : Inv β I σ (w.putObj D o) where
  imm := fun b o' v hv => by
    have hc := hi.imm b o' v hv
    have hb : b ≠ D := fun e => by subst e; simp [World.cell?, hD] at hc
    rw [cell_of_heap (World.putObj_heap_other hb)]
    exact hc
  blk := fun t k hk => BlkR.mono (Keeps.refl β) (fun _ _ _ h => h) (hi.blk t k hk) (fun y hy => World.putObj_heap_other (hn t y hy)) (fun _ _ _ h => h)
  live := fun t y hy => by
    obtain ⟨k, h1, h2⟩ := hi.live t y hy
    exact ⟨k, h1, fun z e => by rw [World.putObj_size]; exact h2 z e⟩
  inj := hi.inj
theorem Step.putNew {β β' : Nat → Option BV} {I I' : Imm} {w w' : World} (h : Step β I w β' I' w') {D : Nat} (hD : w.heap.size ≤ D) (o : Obj) : Step β I w β' I' (w'.putObj D o) where
  os := h.os
  tape := h.tape
  output := h.output
  size := by rw [World.putObj_size]; exact h.size
  frame := fun b hb hn => by rw [World.putObj_heap_other (by omega)]; exact h.frame b hb hn
  mono := h.mono
  fresh := h.fresh
  tags := h.tags
/-- The marks of loops over functions, at an activation's end. -/
theorem leaves_marks {n : Nat} {fn : Func} {tmps : Array Value} {R : Ending → World → Prop} {β β0 : Nat → Option BV} {I I0 : Imm} {σ : List Blk} {w0 : World}
    (hf : ∀ w, Inv β I σ w → Step β0 I0 w0 β I w → ∃ v, (results fn tmps).run P w = .ok v w ∧ R (.returned v) w) :
    ∀ (Ds : List Nat) (w : World), Ds.Nodup → (∀ D ∈ Ds, w0.heap.size ≤ D ∧ w.heap[D]? = some (.deferred (some [])) ∧ ∀ t x, β t = some (.real x) → x.b ≠ D) → Inv β I σ w → Step β0 I0 w0 β I w → LeavesInM Fence.wide n P fn tmps R (Ds.map coll) .returning w
  | [], w, _, _, hi, hs => hf w hi hs
  | D :: Ds, w, hnd, hD, hi, hs => by
    obtain ⟨h1, h2, h3⟩ := hD D (by simp)
    rw [List.nodup_cons] at hnd
    refine ⟨by simp, .inl ⟨D, _, rfl, run_takeDeferred h2, ?_⟩⟩
    refine leaves_marks hf Ds _ hnd.2 (fun D' hD' => ?_) (hi.defd h2 h3 _) (hs.putNew h1 _)
    obtain ⟨g1, g2, g3⟩ := hD D' (by simp [hD'])
    have hne : D' ≠ D := fun e => hnd.1 (e ▸ hD')
    exact ⟨g1, by rw [World.putObj_heap_other hne]; exact g2, g3⟩
theorem AC_intro (hm : P.follows .mixedOrders = true) {f : FuncId} {fn : Func} {c : Code} {args : List V} {σ : List Blk} {R : V → List Blk → List Nat → Prop} (hf : P.funcs[f]? = some fn) (hb : fn.body = some c) (hn : callable P f = true) (hok : codeOK fn.ntmps c = true) (hargs : args.length ≤ fn.ntmps)
    (h : awp P c (Post P σ.length fn.results.toList R) ⟨fun i => args.getD i .undef, σ, []⟩) : AC P f args σ R := by
  refine ⟨hn, fun β I w vs hi hv => ?_⟩
  refine (callsIn_wide (n := 0)).1 (callsIn_of_wp_marks hf hb trivial (wpIn_wide.2 ?_) rfl)
  have hlen := hv.length
  have hR : Rel fn.ntmps ⟨β, I, w, [], []⟩ ⟨fun i => args.getD i .undef, σ, []⟩ { tmps := vs.toArray ++ Array.replicate (fn.ntmps - vs.toArray.size) undef, defers := [] } w := by
    refine ⟨by simp; omega, ⟨rfl, fun t ht => by cases ht⟩, β, I, hi, fun i => ?_, Step.refl _ _ _, Keeps.refl _⟩
    by_cases hlt : i < args.length
    · have h1 : args[i]? = some args[i] := List.getElem?_eq_getElem hlt
      obtain ⟨c, h2, h3⟩ := hv.get h1
      have e1 : args.getD i .undef = args[i] := by simp [List.getD_eq_getElem?_getD, h1]
      have e2 : (vs.toArray ++ Array.replicate (fn.ntmps - vs.toArray.size) undef).getD i undef = c := by
        rw [Array.getD_eq_getD_getElem?, Array.getElem?_append_left (by simp; omega)]
        simp [h2]
      show VR β I (args.getD i .undef) _
      rw [e1, e2]
      exact h3
    · have e1 : args.getD i .undef = .undef := by simp [List.getD_eq_getElem?_getD, List.getElem?_eq_none (by omega : args.length ≤ i)]
      show VR β I (args.getD i .undef) _
      rw [e1]
      simp [VR]
  refine wp_mono (awp_sound hm c _ _ _ _ hok hR h) fun e a' w' ⟨ctl, S, B', hx, hc, hR', hq⟩ => ?_
  obtain ⟨hd, vs', h1, fz, kept, r, σ', h2, h3⟩ := hq
  obtain ⟨hsz, hdf, β1, I1, hi1, htm, hst, hk⟩ := hR'
  obtain ⟨Ds, e1, hnd, hDs⟩ := hx.ds
  have hdef : a'.defers = Ds.map coll := by rw [hdf.1, e1]; simp
  have hfin : LeavesInM Fence.wide 0 P fn a'.tmps (fun e w' => ∃ c β' I' r σ' mv, e = .returned c ∧ R r σ' mv ∧ VR β' I' r c ∧ Inv β' I' σ' w' ∧ Step β I w β' I' w' ∧ Keeps mv β β') (Ds.map coll) .returning w' := by
    refine leaves_marks (β := β1) (I := I1) (σ := S.σ) (β0 := β) (I0 := I) (w0 := w) (fun w2 hi2 hs2 => ?_) Ds w' hnd (fun D hD => ?_) hi1 (hx.st.trans hst)
    · obtain ⟨cv, h4, h5⟩ := results_sound (fn := fn) hi2 htm h1
      obtain ⟨β2, I2, h6, h7, h8, h9⟩ := expo_sound hi2 h2 h5
      refine ⟨cv, h4, cv, β2, I2, r, σ', _, rfl, h3, h8, h6, hs2.trans h7, fun t x hx' ht => ?_⟩
      have hlt := hi.lt hx'
      refine h9 t x hlt (hk t x (hx.kp t x hx' fun hm => ht ?_) fun hm => ht ?_)
      · simp [hdf.2 t hm, hlt]
      · simp [hm, hlt]
    · obtain ⟨g1, g2, g3⟩ := hDs D hD
      exact ⟨g1, hst.defd g2 g3⟩
  cases ctl with
  | normal => cases e <;> first | (show LeavesInM _ _ _ _ _ _ a'.defers _ _; rw [hdef]; exact hfin) | exact hc.elim
  | ret => cases e <;> first | (show LeavesInM _ _ _ _ _ _ a'.defers _ _; rw [hdef]; exact hfin) | exact hc.elim
  | exit i => exact hd.elim
/-! ## Calls with data -/
mutual
def V.mapT (f : Nat → Nat) : V → V
  | .own t off len => .own (f t) off len
  | .win t off len z => .win (f t) off len z
  | .ptr t i o => .ptr (f t) i o
  | .mref t => .mref (f t)
  | .clo fn a b => .clo fn (V.mapTs f a) (V.mapTs f b)
  | .agg cs => .agg (V.mapTs f cs)
  | .tuple cs => .tuple (V.mapTs f cs)
  | v => v
def V.mapTs (f : Nat → Nat) : List V → List V
  | [] => []
  | v :: vs => v.mapT f :: V.mapTs f vs
end
def Blk.mapT (f : Nat → Nat) : Blk → Blk
  | .box cells ro => .box (V.mapTs f cells) ro
  | .mp es c => .mp (es.map fun e => (e.1.mapT f, e.2.1.mapT f, e.2.2)) c
  | .it m since seen last => .it (m.map f) since seen last
  | b => b
mutual
theorem V.rn_mapT (f : Nat → Nat) : ∀ v : V, v.rn (fun t => some (f t)) = some (v.mapT f)
  | .s _ => by simp [V.rn, V.mapT]
  | .sl _ _ => by simp [V.rn, V.mapT]
  | .emp => by simp [V.rn, V.mapT]
  | .own _ _ _ => by simp [V.rn, V.mapT]
  | .win _ _ _ _ => by simp [V.rn, V.mapT]
  | .ptr _ _ _ => by simp [V.rn, V.mapT]
  | .mref _ => by simp [V.rn, V.mapT]
  | .iref _ => by simp [V.rn, V.mapT]
  | .clo _ a b => by simp [V.rn, V.mapT, V.rns_mapTs f a, V.rns_mapTs f b]
  | .agg a => by simp [V.rn, V.mapT, V.rns_mapTs f a]
  | .tuple a => by simp [V.rn, V.mapT, V.rns_mapTs f a]
  | .undef => by simp [V.rn, V.mapT]
theorem V.rns_mapTs (f : Nat → Nat) : ∀ vs : List V, V.rns (fun t => some (f t)) vs = some (V.mapTs f vs)
  | [] => by simp [V.rns, V.mapTs]
  | v :: vs => by simp [V.rns, V.mapTs, V.rn_mapT f v, V.rns_mapTs f vs]
end
mutual
/-- Does a value hold no data that lies in memory? -/
def V.noimm : V → Bool
  | .sl _ [] => true
  | .sl _ (_ :: _) => false
  | .iref _ => false
  | .clo _ a b => V.noimms a && V.noimms b
  | .agg cs => V.noimms cs
  | .tuple cs => V.noimms cs
  | _ => true
def V.noimms : List V → Bool
  | [] => true
  | v :: vs => v.noimm && V.noimms vs
end
def Blk.noimm : Blk → Bool
  | .dead => true
  | .box cells _ => V.noimms cells
  | .rows _ _ _ => false
  | .capd _ _ _ => false
  | .mp es _ => es.all fun e => e.1.noimm && e.2.1.noimm
  | .it _ _ _ _ => true
mutual
theorem VR.noimm {β : Nat → Option BV} {I I' : Imm} : ∀ (v : V) {c : Value}, v.noimm = true → VR β I v c → VR β I' v c
  | .s _, c, _, h => by simpa [VR] using h
  | .sl z [], c, _, h => by simp only [VR, TR] at h ⊢; obtain ⟨a, cap, rfl, h1, h2⟩ := h; exact ⟨a, cap, rfl, h1, .inl trivial⟩
  | .sl z (_ :: _), c, hn, _ => by simp [V.noimm] at hn
  | .emp, c, _, h => by simpa [VR] using h
  | .own _ _ _, c, _, h => by simpa [VR] using h
  | .win _ _ _ _, c, _, h => by simpa [VR] using h
  | .ptr _ _ _, c, _, h => by simpa [VR] using h
  | .mref _, c, _, h => by simpa [VR] using h
  | .iref _, c, hn, _ => by simp [V.noimm] at hn
  | .clo _ a b, c, hn, h => by
    simp only [V.noimm, Bool.and_eq_true] at hn
    simp only [VR] at h ⊢
    obtain ⟨fv, cv, rfl, h1, h2⟩ := h
    exact ⟨fv, cv, rfl, VRs.noimm a hn.1 h1, VRs.noimm b hn.2 h2⟩
  | .agg a, c, hn, h => by
    simp only [V.noimm] at hn
    simp only [VR] at h ⊢
    obtain ⟨vs, rfl, h1⟩ := h
    exact ⟨vs, rfl, VRs.noimm a hn h1⟩
  | .tuple a, c, hn, h => by
    simp only [V.noimm] at hn
    simp only [VR] at h ⊢
    obtain ⟨vs, rfl, h1⟩ := h
    exact ⟨vs, rfl, VRs.noimm a hn h1⟩
  | .undef, c, _, _ => by simp [VR]
theorem VRs.noimm {β : Nat → Option BV} {I I' : Imm} : ∀ (vs : List V) {cs : List Value}, V.noimms vs = true → VRs β I vs cs → VRs β I' vs cs
  | [], cs, _, h => by cases cs <;> simp_all [VRs]
  | v :: vs, cs, hn, h => by
    cases cs with
    | nil => simp [VRs] at h
    | cons c cs =>
      simp only [V.noimms, Bool.and_eq_true] at hn
      simp only [VRs] at h ⊢
      exact ⟨VR.noimm v hn.1 h.1, VRs.noimm vs hn.2 h.2⟩
end
theorem EsR.noimm {β : Nat → Option BV} {I I' : Imm} : ∀ (es : List (V × V × Nat)) {cs : List MapEntry}, (es.all fun e => e.1.noimm && e.2.1.noimm) = true → EsR β I es cs → EsR β I' es cs
  | [], cs, _, hx => by cases cs <;> simp_all [EsR]
  | (k, v, n) :: es, cs, hn, hx => by
    cases cs with
    | nil => simp [EsR] at hx
    | cons c cs =>
      simp only [List.all_cons, Bool.and_eq_true] at hn
      simp only [EsR] at hx ⊢
      exact ⟨⟨VR.noimm k hn.1.1 hx.1.1, VR.noimm v hn.1.2 hx.1.2.1, hx.1.2.2⟩, EsR.noimm es (by simpa using hn.2) hx.2⟩
mutual
/-- What serves in the place of an argument: an empty slice for nil. -/
def V.le : V → V → Prop
  | .agg a, .agg b => V.les a b
  | .clo f a b, .clo f' a' b' => f = f' ∧ V.les a a' ∧ V.les b b'
  | .s v, v' => V.s v = v' ∨ (v = .slice none 0 0 ∧ ∃ z, v' = .sl z [])
  | .sl z rows, v' => V.sl z rows = v' ∨ (rows = [] ∧ ∃ z', v' = .sl z' [])
  | v, v' => v = v'
def V.les : List V → List V → Prop
  | [], [] => True
  | v :: vs, u :: us => V.le v u ∧ V.les vs us
  | _, _ => False
end
mutual
theorem VR.le {β : Nat → Option BV} {I : Imm} : ∀ (v : V) {u : V} {c : Value}, v.le u → VR β I v c → VR β I u c
  | .s v, u, c, h, hx => by
    simp only [V.le] at h
    rcases h with rfl | ⟨rfl, z, rfl⟩
    · exact hx
    · simp only [VR] at hx
      obtain ⟨rfl, _⟩ := hx
      simp only [VR, TR]
      exact ⟨none, 0, rfl, by simp, .inl trivial⟩
  | .sl z rows, u, c, h, hx => by
    simp only [V.le] at h
    rcases h with rfl | ⟨rfl, z', rfl⟩
    · exact hx
    · simp only [VR, TR] at hx ⊢
      obtain ⟨a, cap, rfl, h1, h2⟩ := hx
      exact ⟨a, cap, rfl, h1, .inl trivial⟩
  | .emp, u, c, h, hx => by simp only [V.le] at h; subst h; exact hx
  | .own _ _ _, u, c, h, hx => by simp only [V.le] at h; subst h; exact hx
  | .win _ _ _ _, u, c, h, hx => by simp only [V.le] at h; subst h; exact hx
  | .ptr _ _ _, u, c, h, hx => by simp only [V.le] at h; subst h; exact hx
  | .mref _, u, c, h, hx => by simp only [V.le] at h; subst h; exact hx
  | .iref _, u, c, h, hx => by simp only [V.le] at h; subst h; exact hx
  | .tuple _, u, c, h, hx => by simp only [V.le] at h; subst h; exact hx
  | .undef, u, c, h, hx => by simp only [V.le] at h; subst h; exact hx
  | .agg a, u, c, h, hx => by
    cases u with
    | agg b =>
      simp only [V.le] at h
      simp only [VR] at hx ⊢
      obtain ⟨vs, rfl, h1⟩ := hx
      exact ⟨vs, rfl, VRs.le a h h1⟩
    | _ => simp [V.le] at h
  | .clo f a b, u, c, h, hx => by
    cases u with
    | clo f' a' b' =>
      simp only [V.le] at h
      obtain ⟨rfl, h1, h2⟩ := h
      simp only [VR] at hx ⊢
      obtain ⟨fv, cv, rfl, h3, h4⟩ := hx
      exact ⟨fv, cv, rfl, VRs.le a h1 h3, VRs.le b h2 h4⟩
    | _ => simp [V.le] at h
theorem VRs.le {β : Nat → Option BV} {I : Imm} : ∀ (vs : List V) {us : List V} {cs : List Value}, V.les vs us → VRs β I vs cs → VRs β I us cs
  | [], us, cs, h, hx => by cases us <;> cases cs <;> simp_all [VRs, V.les]
  | v :: vs, us, cs, h, hx => by
    cases us with
    | nil => simp [V.les] at h
    | cons u us =>
      cases cs with
      | nil => simp [VRs] at hx
      | cons c cs =>
        simp only [V.les] at h
        simp only [VRs] at hx ⊢
        exact ⟨VR.le v h.1 hx.1, VRs.le vs h.2 hx.2⟩
end
theorem EsR.mapT {β β2 : Nat → Option BV} {I : Imm} {n : Nat} (hf : ∀ t t', (fun t => some (t + n)) t = some t' → β2 t' = β t) : ∀ (es : List (V × V × Nat)) {cs : List MapEntry},
    EsR β I es cs → EsR β2 I (es.map fun e => (e.1.mapT (· + n), e.2.1.mapT (· + n), e.2.2)) cs
  | [], cs, hx => by cases cs <;> simp_all [EsR]
  | (k, v, b) :: es, cs, hx => by
    cases cs with
    | nil => simp [EsR] at hx
    | cons c cs =>
      simp only [EsR, List.map_cons] at hx ⊢
      exact ⟨⟨VR.rn hf k (V.rn_mapT (· + n) k) hx.1.1, VR.rn hf v (V.rn_mapT (· + n) v) hx.1.2.1, hx.1.2.2⟩, EsR.mapT hf es hx.2⟩
theorem BlkR.mapT {β β2 : Nat → Option BV} {I : Imm} {w : World} {n t : Nat} {k : Blk} (hβ : ∀ t, β2 (t + n) = β t) (h : BlkR β I w t k) : BlkR β2 I w (t + n) (k.mapT (· + n)) := by
  have hf : ∀ t t', (fun t => some (t + n)) t = some t' → β2 t' = β t := by
    intro t t' h
    simp at h
    subst h
    exact hβ t
  cases k with
  | dead => trivial
  | box cells ro =>
    simp only [BlkR, Blk.mapT] at h ⊢
    obtain ⟨b, cs, e, h1, h2, h3, h4⟩ := h
    have hl : (V.mapTs (· + n) cells).length = cells.length := V.rns_length (V.rns_mapTs (· + n) cells)
    exact ⟨b, cs, e, by rw [hβ, hl]; exact h1, h2, VRs.rn hf cells (V.rns_mapTs (· + n) cells) h3, fun o ho => h4 o (by rwa [hl] at ho)⟩
  | rows z xs ro =>
    simp only [BlkR, Blk.mapT] at h ⊢
    rw [hβ]
    exact h
  | capd z xs k =>
    simp only [BlkR, Blk.mapT] at h ⊢
    rw [hβ]
    exact h
  | mp es cl =>
    simp only [BlkR, Blk.mapT] at h ⊢
    obtain ⟨b, cs, h1, h2, h3⟩ := h
    exact ⟨b, cs, by rw [hβ]; exact h1, h2, EsR.mapT hf es h3⟩
  | it m since seen last =>
    simp only [BlkR, Blk.mapT] at h ⊢
    obtain ⟨b, h1, mv', h2, h3⟩ := h
    refine ⟨b, by rw [hβ]; exact h1, mv', h2, ?_⟩
    rcases h3 with ⟨rfl, h3⟩ | ⟨tm, x, rfl, h4, h5⟩
    · exact .inl ⟨rfl, h3⟩
    · exact .inr ⟨tm + n, x, rfl, by rw [hβ]; exact h4, h5⟩
theorem frz1_length {σ : List Blk} {v : V} {t : T} {σ' : List Blk} (h : frz1 σ v = some (t, σ')) : σ'.length = σ.length := by
  unfold frz1 at h
  split at h <;> (try split at h) <;> (try split at h) <;> simp at h <;> simp [← h.2]
theorem frz_length : ∀ {vs : List V} {σ : List Blk} {ts : List T} {σ' : List Blk}, frz σ vs = some (ts, σ') → σ'.length = σ.length
  | [], σ, ts, σ', h => by simp [frz] at h; rw [← h.2]
  | v :: vs, σ, ts, σ', h => by
    simp only [frz] at h
    split at h
    · rename_i t σ1 h3
      split at h
      · rename_i ts' σ2 h4
        simp at h
        rw [← h.2, frz_length h4, frz1_length h3]
      · simp at h
    · simp at h
theorem frzBox_length {σ : List Blk} {t off n : Nat} {ts : List T} {σ' : List Blk} (h : frzBox σ t off n = some (ts, σ')) : σ'.length = σ.length := by
  unfold frzBox at h
  split at h
  · split at h
    · split at h
      · rename_i ts' σ1 hf
        split at h
        · simp at h
          rw [← h.2]
          simp [frz_length hf]
        · simp at h
      · simp at h
    · simp at h
  · simp at h
mutual
theorem frzV_length : ∀ (v : V) {c : Bool} {σ : List Blk} {v' : V} {σ' : List Blk}, frzV c σ v = some (v', σ') → σ'.length = σ.length
  | .s _, c, σ, v', σ', h => by simp only [frzV, Option.some.injEq, Prod.mk.injEq] at h; rw [← h.2]
  | .sl _ _, c, σ, v', σ', h => by simp only [frzV, Option.some.injEq, Prod.mk.injEq] at h; rw [← h.2]
  | .iref _, c, σ, v', σ', h => by simp only [frzV, Option.some.injEq, Prod.mk.injEq] at h; rw [← h.2]
  | .undef, c, σ, v', σ', h => by simp only [frzV, Option.some.injEq, Prod.mk.injEq] at h; rw [← h.2]
  | .emp, c, σ, v', σ', h => by simp only [frzV, Option.some.injEq, Prod.mk.injEq] at h; rw [← h.2]
  | .own t off len, c, σ, v', σ', h => by
    simp only [frzV] at h
    split at h
    · rename_i z rows σ1 h1
      simp at h
      rw [← h.2, frz1_length h1]
    · simp at h
  | .win t off len z, c, σ, v', σ', h => by
    simp only [frzV] at h
    split at h
    · rename_i ts σ1 h1
      simp at h
      rw [← h.2, frzBox_length h1]
    · simp at h
  | .ptr t i o, c, σ, v', σ', h => by
    simp only [frzV] at h
    split at h
    · split at h
      · rename_i ts σ1 h1
        simp at h
        rw [← h.2, frzBox_length h1]
      · simp at h
    · simp at h
  | .mref t, c, σ, v', σ', h => by simp [frzV] at h
  | .clo fn a b, c, σ, v', σ', h => by
    simp only [frzV] at h
    split at h
    · rename_i a' σ1 h1
      split at h
      · rename_i b' σ2 h2
        simp at h
        rw [← h.2, frzVs_length b h2, frzVs_length a h1]
      · simp at h
    · simp at h
  | .agg cs, c, σ, v', σ', h => by
    simp only [frzV] at h
    split at h
    · rename_i a' σ1 h1
      simp at h
      rw [← h.2, frzVs_length cs h1]
    · simp at h
  | .tuple cs, c, σ, v', σ', h => by
    simp only [frzV] at h
    split at h
    · rename_i a' σ1 h1
      simp at h
      rw [← h.2, frzVs_length cs h1]
    · simp at h
theorem frzVs_length : ∀ (vs : List V) {c : Bool} {σ : List Blk} {vs' : List V} {σ' : List Blk}, frzVs c σ vs = some (vs', σ') → σ'.length = σ.length
  | [], c, σ, vs', σ', h => by simp only [frzVs, Option.some.injEq, Prod.mk.injEq] at h; rw [← h.2]
  | v :: vs, c, σ, vs', σ', h => by
    simp only [frzVs] at h
    split at h
    · rename_i v1 σ1 h1
      split at h
      · rename_i vs1 σ2 h2
        simp at h
        rw [← h.2, frzVs_length vs h2, frzV_length v h1]
      · simp at h
    · simp at h
end
/-- A CALL WHOSE ARGUMENTS ARE DATA: the contract over the empty heap serves over any heap. -/
theorem AC_snap {f : FuncId} {args args1 args' : List V} {σ σ1 : List Blk} {R : V → List Blk → List Nat → Prop} (h : AC P f args' [] R) (hs : frzVs false σ args = some (args1, σ1)) (hle : V.les args1 args') :
    AC P f args σ (fun r2 σ2 mv => mv = [] ∧ ∃ r h' mv', R r h' mv' ∧ r2 = r.mapT (· + σ.length) ∧ σ2 = (if (r.noimm && h'.all Blk.noimm) = true then σ else σ1) ++ h'.map (Blk.mapT (· + σ.length))) := by
  refine ⟨h.1, fun β I w vs hi hv => ?_⟩
  obtain ⟨I1, i1, s1, t1⟩ := frzVs_sound args hi hs hv
  have hlen1 : σ1.length = σ.length ∨ True := .inr trivial
  have hi0 : Inv (fun _ => none) I1 [] w := ⟨i1.imm, fun t k hk => by simp at hk, fun t x hx => by simp at hx, fun t t' x x' hx => by simp at hx⟩
  have hv0 := VRs.le _ hle (t1 fun _ => none)
  refine (h.2 _ _ _ _ hi0 hv0).mono fun e w' hp => ?_
  obtain ⟨c, β', I', r, h', mv', rfl, hR, hvr, hi', hst, hk⟩ := hp
  have hsame : ∀ b, b < w.heap.size → w'.heap[b]? = w.heap[b]? := fun b hb => hst.frame b hb (fun t x hx => by simp at hx)
  have hnew : ∀ t x, β' t = some (.real x) → w.heap.size ≤ x.b := by
    intro t x hx
    rcases hst.tags t x hx with ⟨t', x', h1, _⟩ | h1
    · simp at h1
    · exact h1
  let n := σ.length
  let β2 : Nat → Option BV := fun t => if t < n then β t else β' (t - n)
  have hlo : ∀ t, t < n → β2 t = β t := fun t ht => by simp [β2, ht]
  have hhi : ∀ t, β2 (t + n) = β' t := fun t => by simp [β2, show ¬ t + n < n by omega]
  have hk2 : Keeps [] β β2 := fun t x hx _ => by rw [hlo t (hi.lt hx)]; exact hx
  have hinj : ∀ t t' x x', β2 t = some (.real x) → β2 t' = some (.real x') → x.b = x'.b → t = t' := by
    intro t t' x x' hx hx' he
    by_cases h1 : t < n <;> by_cases h2 : t' < n
    · rw [hlo t h1] at hx; rw [hlo t' h2] at hx'; exact hi.inj _ _ _ _ hx hx' he
    · rw [hlo t h1] at hx
      have := hhi (t' - n)
      rw [Nat.sub_add_cancel (by omega)] at this
      rw [this] at hx'
      have h3 := hnew _ _ hx'
      have h4 := hi.blt hx
      omega
    · rw [hlo t' h2] at hx'
      have := hhi (t - n)
      rw [Nat.sub_add_cancel (by omega)] at this
      rw [this] at hx
      have h3 := hnew _ _ hx
      have h4 := hi.blt hx'
      omega
    · have e1 := hhi (t - n)
      rw [Nat.sub_add_cancel (by omega)] at e1
      have e2 := hhi (t' - n)
      rw [Nat.sub_add_cancel (by omega)] at e2
      rw [e1] at hx
      rw [e2] at hx'
      have := hi'.inj _ _ _ _ hx hx' he
      omega
  have htags : ∀ t x, β2 t = some (.real x) → (∃ t' x', β t' = some (.real x') ∧ x'.b = x.b) ∨ w.heap.size ≤ x.b := by
    intro t x hx
    by_cases h1 : t < n
    · rw [hlo t h1] at hx; exact .inl ⟨t, x, hx, rfl⟩
    · have e1 := hhi (t - n)
      rw [Nat.sub_add_cancel (by omega)] at e1
      rw [e1] at hx
      exact .inr (hnew _ _ hx)
  have hvr2 : VR β2 I' (r.mapT (· + n)) c := VR.rn (β' := β2) (f := fun t => some (t + n)) (fun t t' ht => by simp at ht; subst ht; exact hhi t) r (V.rn_mapT (· + n) r) hvr
  -- the heap's parts, for whatever is kept of the old one
  have build : ∀ (I2 : Imm) (σx : List Blk), σx.length = n → (∀ b o v, I2 b o = some v → w'.cell? ⟨b, o, none⟩ = some v) → (∀ t k, σx[t]? = some k → BlkR β2 I2 w' t k) → (∀ t k, h'[t]? = some k → BlkR β' I2 w' t k) →
      Inv β2 I2 (σx ++ h'.map (Blk.mapT (· + n))) w' := by
    intro I2 σx hl him hb1 hb2
    refine ⟨him, fun t k hkk => ?_, fun t x hx => ?_, hinj⟩
    · by_cases h1 : t < n
      · rw [List.getElem?_append_left (by omega)] at hkk
        exact hb1 t k hkk
      · rw [List.getElem?_append_right (by omega), List.getElem?_map, Option.map_eq_some_iff] at hkk
        obtain ⟨k', h2, rfl⟩ := hkk
        rw [hl] at h2
        have := BlkR.mapT (n := n) hhi (hb2 _ _ h2)
        rwa [Nat.sub_add_cancel (by omega)] at this
    · by_cases h1 : t < n
      · rw [hlo t h1] at hx
        obtain ⟨k, _, h3⟩ := hi.live t x hx
        exact ⟨σx[t]'(by omega), by rw [List.getElem?_append_left (by omega)]; exact List.getElem?_eq_getElem (by omega), fun y hy => Nat.lt_of_lt_of_le (h3 y hy) hst.size⟩
      · have e1 := hhi (t - n)
        rw [Nat.sub_add_cancel (by omega)] at e1
        rw [e1] at hx
        obtain ⟨k, h2, h3⟩ := hi'.live _ _ hx
        exact ⟨k.mapT (· + n), by rw [List.getElem?_append_right (by omega), hl, List.getElem?_map, h2]; rfl, h3⟩
  by_cases hclean : (r.noimm && h'.all Blk.noimm) = true
  · -- nothing of what was handed in has come back
    refine ⟨c, β2, I, _, _, _, rfl, ⟨rfl, r, h', mv', hR, rfl, rfl⟩, ?_, ?_, ?_, hk2⟩
    · simp only [Bool.and_eq_true] at hclean
      have hnm : (r.mapT (· + n)).noimm = true := by
        have key : ∀ v : V, (v.mapT (· + n)).noimm = v.noimm := by
          intro v
          exact V.rec (motive_1 := fun v => (v.mapT (· + n)).noimm = v.noimm) (motive_2 := fun vs => V.noimms (V.mapTs (· + n) vs) = V.noimms vs) (by intros; simp [V.mapT]) (by intros; simp [V.mapT]) (by simp [V.mapT]) (by intros; simp [V.mapT, V.noimm]) (by intros; simp [V.mapT, V.noimm])
            (by intros; simp [V.mapT, V.noimm]) (by intros; simp [V.mapT, V.noimm]) (by intros; simp [V.mapT]) (by intro _ _ _ h1 h2; simp [V.mapT, V.noimm, h1, h2]) (by intro _ h1; simp [V.mapT, V.noimm, h1]) (by intro _ h1; simp [V.mapT, V.noimm, h1]) (by simp [V.mapT]) (by simp [V.mapTs]) (by intro _ _ h1 h2; simp [V.mapTs, V.noimms, h1, h2]) v
        rw [key]
        exact hclean.1
      exact VR.noimm _ hnm hvr2
    · rw [if_pos hclean]
      simp only [Bool.and_eq_true, List.all_eq_true] at hclean
      refine build I σ rfl (fun b o v hv => ?_) (fun t k hkk => ?_) (fun t k hkk => ?_)
      · rw [cell_of_heap (hsame b (hi.ilt hv))]; exact hi.imm b o v hv
      · exact BlkR.mono hk2 (fun _ _ _ h => h) (hi.blk t k hkk) (fun x hx => hsame _ (hi.blt hx)) (fun _ _ _ h => h)
      · have hb := hi'.blk t k hkk
        have hno := hclean.2 k (List.mem_of_getElem? hkk)
        have hI : ∀ b o, w.heap.size ≤ b → I b o = none := by
          intro b o hb
          cases hio : I b o with
          | none => rfl
          | some v => have := hi.ilt hio; omega
        cases k with
        | dead => trivial
        | box cells ro =>
          simp only [Blk.noimm] at hno
          simp only [BlkR] at hb ⊢
          obtain ⟨b, cs, e, h1, h2, h3, h4⟩ := hb
          exact ⟨b, cs, e, h1, h2, VRs.noimm _ hno h3, fun o _ => hI b o (hnew _ _ h1)⟩
        | rows z xs ro => simp [Blk.noimm] at hno
        | capd z xs kk => simp [Blk.noimm] at hno
        | mp es cl =>
          simp only [Blk.noimm] at hno
          simp only [BlkR] at hb ⊢
          obtain ⟨b, cs, h1, h2, h3⟩ := hb
          exact ⟨b, cs, h1, h2, EsR.noimm es hno h3⟩
        | it m since seen last => simpa only [BlkR] using hb
    · exact ⟨hst.os, hst.tape, hst.output, hst.size, fun b hb _ => hsame b hb, fun _ _ _ h => h, fun _ _ _ h => .inl h, htags⟩
  · refine ⟨c, β2, I', _, _, _, rfl, ⟨rfl, r, h', mv', hR, rfl, rfl⟩, hvr2, ?_, ?_, hk2⟩
    · rw [if_neg hclean]
      have hInone : ∀ b o, b < w.heap.size → I1 b o = none → I' b o = none := by
        intro b o hb hn
        cases hio : I' b o with
        | none => rfl
        | some v =>
          rcases hst.fresh b o v hio with h1 | ⟨t, x, h1, _⟩ | h1
          · rw [hn] at h1; cases h1
          · simp at h1
          · omega
      have hl1 : σ1.length = n := by
        exact frzVs_length args hs
      exact build I' σ1 hl1 hi'.imm (fun t k hkk => BlkR.mono hk2 hst.mono (i1.blk t k hkk) (fun x hx => hsame _ (hi.blt hx)) (fun x o hx ho => hInone _ _ (hi.blt hx) ho)) (fun t k hkk => hi'.blk t k hkk)
    · refine s1.trans ⟨hst.os, hst.tape, hst.output, hst.size, fun b hb _ => hsame b hb, hst.mono, fun b o v hv => ?_, htags⟩
      rcases hst.fresh b o v hv with h1 | ⟨t, x, h1, _⟩ | h1
      · exact .inl h1
      · simp at h1
      · exact .inr (.inr h1)
end
end Go.Ai
