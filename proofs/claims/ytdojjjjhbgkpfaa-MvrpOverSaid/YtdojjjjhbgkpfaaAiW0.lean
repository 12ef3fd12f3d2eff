/- An interpreter of the language over data, and the proof that what it answers is what the machine does; no condition. -/
import Derived.Test.YtdojjjjhbgkpfaaAiX
set_option linter.unusedVariables false
set_option linter.unusedSimpArgs false
namespace Go.Ai
/-! ## States, calls, and what code comes to -/
inductive Ctl where
  | normal | ret | exit (id : Nat)
structure St where
  tm : Nat → V
  σ : List Blk
  mv : List Nat
def evS (tm : Nat → V) : Operand → V
  | .tmp t => tm t
  | .const v => (ofVal v).getD .undef
  | .global _ => .undef
  | .func f => .clo (.func f) [] []
def upd (tm : Nat → V) (d : Nat) (v : V) : Nat → V := fun i => if i = d then v else tm i
def pzT : List Nat → (Nat → V) → Nat → V
  | [], tm => tm
  | mv, tm => fun i => (tm i).pz mv
def St.put (S : St) (dst : Option Tmp) (v : V) (σ : List Blk) (mv : List Nat) : St :=
  match dst with
  | some d => ⟨upd (pzT mv S.tm) d v, σ, S.mv ++ mv⟩
  | none => ⟨pzT mv S.tm, σ, S.mv ++ mv⟩
def callable (P : Program) (f : FuncId) : Bool :=
  match P.funcs[f]? with
  | some fn => !(fn.name == "runtime.NumGoroutine") && fn.body.isSome
  | none => false
/-- THE CONTRACT of a function: from these arguments and this heap it returns, and R holds of the result, the heap, the tags that may lie elsewhere. -/
def AC (P : Program) (f : FuncId) (args : List V) (σ : List Blk) (R : V → List Blk → List Nat → Prop) : Prop :=
  callable P f = true ∧ ∀ β I w vs, Inv β I σ w → VRs β I args vs → Calls P f vs.toArray w fun e w' =>
    ∃ c β' I' r σ' mv, e = .returned c ∧ R r σ' mv ∧ VR β' I' r c ∧ Inv β' I' σ' w' ∧ Step β I w β' I' w' ∧ Keeps mv β β'
theorem AC.mono {P : Program} {f : FuncId} {args : List V} {σ : List Blk} {R R' : V → List Blk → List Nat → Prop} (h : AC P f args σ R) (k : ∀ r σ' mv, R r σ' mv → R' r σ' mv) : AC P f args σ R' :=
  ⟨h.1, fun β I w vs hi hv => (h.2 β I w vs hi hv).mono fun e w' ⟨c, β', I', r, σ', mv, h1, h2, h3⟩ => ⟨c, β', I', r, σ', mv, h1, k _ _ _ h2, h3⟩⟩
def stepO (P : Program) (o : Oper) (S : St) (K : St → Prop) : Prop :=
  match o.op with
  | .call c => match c.callee with
    | .value f => match evS S.tm f with
      | .clo (.func k) first caps => AC P k (first ++ c.args.toList.map (evS S.tm) ++ caps) S.σ fun r σ' mv => K (S.put o.dst r σ' mv)
      | _ => False
    | _ => match aop P (evS S.tm) S.σ o with
      | some (v, σ', mv) => K (S.put o.dst v σ' mv)
      | none => stepX P (evS S.tm) S.σ o fun v σ' mv => K (S.put o.dst v σ' mv)
  | _ => match aop P (evS S.tm) S.σ o with
    | some (v, σ', mv) => K (S.put o.dst v σ' mv)
    | none => stepX P (evS S.tm) S.σ o fun v σ' mv => K (S.put o.dst v σ' mv)
def awpOps (P : Program) (ops : Array Oper) (K : St → Prop) : List Nat → St → Prop
  | [], S => K S
  | i :: rest, S =>
    match ops[i]? with
    | none => awpOps P ops K rest S
    | some o =>
      match o.guard with
      | none => stepO P o S (awpOps P ops K rest)
      | some (j, want) =>
        match (ops[j]?).bind (·.dst) with
        | none => False
        | some d => match S.tm d with
          | .s (.bool b) => (b = want → stepO P o S (awpOps P ops K rest)) ∧ (b ≠ want → awpOps P ops K rest (S.put o.dst (.tuple []) S.σ []))
          | .tuple [] => awpOps P ops K rest (S.put o.dst (.tuple []) S.σ [])
          | _ => False
/-- What can be asked of the text alone: results within the frame, no open order. -/
def opsOK (N : Nat) (ops : Array Oper) : Bool := ops.all fun o => match o.dst with | some d => d < N | none => true
section
variable {P : Program}
structure Base where
  β : Nat → Option BV
  I : Imm
  w : World
  /-- what the activation has put off till its end -/
  ds : List Deferred
  /-- the tags that have moved before -/
  mv0 : List Nat
def Rel (N : Nat) (B : Base) (S : St) (a : Act) (w : World) : Prop :=
  a.tmps.size = N ∧ (a.defers = B.ds ∧ ∀ t ∈ B.mv0, t ∈ S.mv) ∧ ∃ β I, Inv β I S.σ w ∧ (∀ i, VR β I (S.tm i) (a.tmps.getD i undef)) ∧ Step B.β B.I B.w β I w ∧ Keeps S.mv B.β β
def CR : Ctl → Exit → Prop
  | .normal, .normal => True
  | .ret, .ret => True
  | .exit i, .exit j => i = j
  | _, _ => False
/-- The mark that a loop over a function leaves among the calls that were put off. -/
def coll (D : Nat) : Deferred := { target := .collected D, args := #[] }
/-- A later moment of the same activation. -/
structure Ext (B B' : Base) : Prop where
  ds : ∃ Ds : List Nat, B'.ds = Ds.map coll ++ B.ds ∧ Ds.Nodup ∧ ∀ D ∈ Ds, B.w.heap.size ≤ D ∧ B'.w.heap[D]? = some (.deferred (some [])) ∧ ∀ t x, B'.β t = some (.real x) → x.b ≠ D
  st : Step B.β B.I B.w B'.β B'.I B'.w
  kp : Keeps B'.mv0 B.β B'.β
  mv : ∀ t ∈ B.mv0, t ∈ B'.mv0
theorem Ext.refl (B : Base) : Ext B B := ⟨⟨[], rfl, List.nodup_nil, fun D hD => by cases hD⟩, Step.refl _ _ _, fun _ _ h _ => h, fun _ h => h⟩
theorem Step.defd {β β' : Nat → Option BV} {I I' : Imm} {w w' : World} (h : Step β I w β' I' w') {D : Nat} {o : Obj} (hD : w.heap[D]? = some o) (hn : ∀ t x, β t = some (.real x) → x.b ≠ D) :
    w'.heap[D]? = some o ∧ ∀ t x, β' t = some (.real x) → x.b ≠ D := by
  have hlt : D < w.heap.size := (Array.getElem?_eq_some_iff.1 hD).1
  refine ⟨by rw [h.frame D hlt hn, hD], fun t x hx e => ?_⟩
  rcases h.tags t x hx with ⟨t', x', h1, h2⟩ | h1
  · exact hn t' x' h1 (h2.trans e)
  · omega
theorem Ext.trans {B B' B'' : Base} (h : Ext B B') (k : Ext B' B'') : Ext B B'' where
  ds := by
    obtain ⟨D1, e1, n1, h1⟩ := h.ds
    obtain ⟨D2, e2, n2, h2⟩ := k.ds
    refine ⟨D2 ++ D1, by rw [e2, e1, List.map_append, List.append_assoc], List.nodup_append.2 ⟨n2, n1, fun D hD D' hD' e => ?_⟩, fun D hD => ?_⟩
    · subst e
      have a1 := (h2 D hD).1
      have a2 := (Array.getElem?_eq_some_iff.1 (h1 D hD').2.1).1
      omega
    rcases List.mem_append.1 hD with hD | hD
    · exact ⟨Nat.le_trans h.st.size (h2 D hD).1, (h2 D hD).2⟩
    · exact ⟨(h1 D hD).1, k.st.defd (h1 D hD).2.1 (h1 D hD).2.2⟩
  st := h.st.trans k.st
  kp := fun t x hx hm => k.kp t x (h.kp t x hx fun hh => hm (k.mv t hh)) hm
  mv := fun t ht => k.mv t (h.mv t ht)
def Lift (N : Nat) (B : Base) (Q : Ctl → St → Prop) : Exit → Act → World → Prop := fun e a w => ∃ c S B', Ext B B' ∧ CR c e ∧ Rel N B' S a w ∧ Q c S
theorem Lift.ext {N : Nat} {B B' : Base} {Q : Ctl → St → Prop} {e : Exit} {a : Act} {w : World} (h : Ext B B') (k : Lift N B' Q e a w) : Lift N B Q e a w := by
  obtain ⟨c, S, B2, h1, h2⟩ := k
  exact ⟨c, S, B2, h.trans h1, h2⟩
theorem Keeps.trans {m1 m2 : List Nat} {β1 β2 β3 : Nat → Option BV} (h : Keeps m1 β1 β2) (k : Keeps m2 β2 β3) : Keeps (m1 ++ m2) β1 β3 := fun t x hx hm => by
  simp only [List.mem_append, not_or] at hm
  exact k t x (h t x hx hm.1) hm.2
theorem evS_rel {β : Nat → Option BV} {I : Imm} {tm : Nat → V} {a : Act} (h : ∀ i, VR β I (tm i) (a.tmps.getD i undef)) : EvR β I (evS tm) a.eval := by
  intro x
  cases x with
  | tmp t => exact h t
  | const v =>
    simp only [evS, Act.eval]
    cases hv : ofVal v with
    | none => simp [VR]
    | some u => exact ofVal_sound v hv
  | global g => simp [evS, VR]
  | func f => simp only [evS, Act.eval, VR]; exact ⟨_, _, rfl, by simp [VRs], by simp [VRs]⟩
theorem put_rel {N : Nat} {B : Base} {S : St} {a : Act} {w' : World} {β β' : Nat → Option BV} {I I' : Imm} {w : World} {dst : Option Tmp} {v : V} {c : Value} {σ' : List Blk} {mv : List Nat} (hsz : a.tmps.size = N) (hdf : a.defers = B.ds ∧ ∀ t ∈ B.mv0, t ∈ S.mv)
    (htm : ∀ i, VR β I (S.tm i) (a.tmps.getD i undef)) (hst : Step B.β B.I B.w β I w) (hk : Keeps S.mv B.β β) (hd : ∀ d, dst = some d → d < N)
    (hv : VR β' I' v c) (hi : Inv β' I' σ' w') (hs : Step β I w β' I' w') (hk' : Keeps mv β β') : Rel N B (S.put dst v σ' mv) (a.put dst c) w' := by
  have hpz : ∀ i, VR β' I' (pzT mv S.tm i) (a.tmps.getD i undef) := by
    intro i
    cases mv with
    | nil => simp only [pzT]; exact VR.mono hk' hs.mono (htm i)
    | cons m mv => simp only [pzT]; exact VR.keep hk' hs.mono _ _ (htm i)
  cases dst with
  | none => exact ⟨hsz, ⟨hdf.1, fun t ht => by simp only [St.put, List.mem_append]; exact .inl (hdf.2 t ht)⟩, β', I', hi, hpz, hst.trans hs, hk.trans hk'⟩
  | some d =>
    have hdN : @LT.lt Nat _ d N := hd d rfl
    refine ⟨by simp [Act.put, hsz], ⟨by simp [Act.put, hdf.1], fun t ht => by simp only [St.put, List.mem_append]; exact .inl (hdf.2 t ht)⟩, β', I', hi, fun i => ?_, hst.trans hs, hk.trans hk'⟩
    simp only [St.put, upd, Act.put]
    by_cases e : i = d
    · subst e
      rw [if_pos rfl]
      have hlt : i < a.tmps.size := by rw [hsz]; exact hdN
      have : (a.tmps.setIfInBounds i c).getD i undef = c := by
        rw [Array.getD_eq_getD_getElem?, Array.getElem?_setIfInBounds_self_of_lt hlt]
        rfl
      rw [this]
      exact hv
    · rw [if_neg e]
      have : (a.tmps.setIfInBounds d c).getD i undef = a.tmps.getD i undef := by
        rw [Array.getD_eq_getD_getElem?, Array.getElem?_setIfInBounds_ne (Ne.symm e), ← Array.getD_eq_getD_getElem?]
      rw [this]
      exact hpz i
theorem run_callFunc {f : FuncId} (h : callable P f = true) (args : Array Value) (w : World) : (callFunc f args).run P w = .ok (.enter f args) w := by
  unfold callable at h
  split at h
  · rename_i fn hf
    simp only [Bool.and_eq_true, Bool.not_eq_true'] at h
    have hb : ¬ fn.body = none := by cases hb : fn.body <;> simp_all
    have hn : ¬ fn.name = "runtime.NumGoroutine" := by simpa using h.1
    simp [callFunc, hf, hn, hb]
  · simp at h
theorem stepO_sound {N : Nat} {B : Base} {o : Oper} {S : St} {a : Act} {w : World} {K : St → Prop} {next : Act → World → Prop} {Q : Exit → Act → World → Prop} (hd : ∀ d, o.dst = some d → d < N) (hR : Rel N B S a w) (h : stepO P o S K)
    (hn : ∀ S' a' w', Rel N B S' a' w' → K S' → next a' w') : o.wp P a w next Q := by
  obtain ⟨hsz, hdf, β, I, hi, htm, hst, hk⟩ := hR
  have hev := evS_rel htm
  have plainX : (∃ v σ' mv, K (S.put o.dst v σ' mv) ∧ OpGives P (execOp a.eval o) β I w v σ' mv) → o.wp P a w next Q := by
    rintro ⟨v, σ', mv, h2, nx, w', β', I', g1, g2, g3, g4, g5⟩
    unfold Oper.wp
    rw [g1]
    rcases g2 with ⟨c, rfl, g2⟩ | ⟨rfl, rfl⟩
    · rw [Oper.upon_value]
      exact hn _ _ _ (put_rel hsz hdf htm hst hk hd g2 g3 g4 g5) h2
    · rw [Oper.upon_skip]
      exact hn _ _ _ (put_rel hsz hdf htm hst hk hd (by simp [VR]) g3 g4 g5) h2
  have plain : (∃ v σ' mv, aop P (evS S.tm) S.σ o = some (v, σ', mv) ∧ K (S.put o.dst v σ' mv)) → o.wp P a w next Q := by
    rintro ⟨v, σ', mv, h1, h2⟩
    exact plainX ⟨v, σ', mv, h2, aop_sound hi hev h1⟩
  unfold stepO at h
  split at h
  · rename_i c hop
    split at h
    · rename_i f hcal
      split at h
      · rename_i k first caps hf
        have hfv := hev f
        rw [hf] at hfv
        simp only [VR] at hfv
        obtain ⟨fv, cv, e, hfv1, hfv2⟩ := hfv
        have hargs := hev.map c.args.toList
        have hall := (hfv1.append hargs).append hfv2
        have hcall := h.2 β I w _ hi hall
        unfold Oper.wp
        have hrun : (execOp a.eval o).run P w = .ok (.enter k (fv.toList ++ c.args.toList.map a.eval ++ cv.toList).toArray) w := by
          have e1 : (fv.toList ++ c.args.toList.map a.eval ++ cv.toList).toArray = fv ++ c.args.map a.eval ++ cv := by
            apply Array.ext'
            simp
          rw [e1]
          simp [execOp, hop, resolve, hcal, e, Deferred.ofValue, invoke, run_callFunc h.1]
        rw [hrun, Oper.upon_enter]
        refine hcall.mono fun e w' hp => ?_
        obtain ⟨c', β', I', r, σ', mv, rfl, h1, h2, h3, h4, h5⟩ := hp
        exact hn _ _ _ (put_rel hsz hdf htm hst hk hd h2 h3 h4 h5) h1
      · exact h.elim
    · split at h
      · rename_i v σ' mv h1
        exact plain ⟨v, σ', mv, h1, h⟩
      · exact plainX (stepX_sound hi hev h)
  · split at h
    · rename_i v σ' mv h1
      exact plain ⟨v, σ', mv, h1, h⟩
    · exact plainX (stepX_sound hi hev h)
theorem VR_undef {β : Nat → Option BV} {I : Imm} : VR β I (.tuple []) undef := by
  simp only [VR]
  exact ⟨#[], rfl, by simp [VRs]⟩
theorem yielded_none {β : Nat → Option BV} {I : Imm} {ops : Array Oper} {tmps : Array Value} {j d : Nat} (hd : (ops[j]?).bind (·.dst) = some d) (h : VR β I (.tuple []) (tmps.getD d undef)) : yielded ops tmps j = none := by
  simp only [VR] at h
  obtain ⟨vs, e, _⟩ := h
  simp only [yielded, hd, Option.bind_some]
  rcases Nat.lt_or_ge d tmps.size with hlt | hge
  · rw [Array.getElem?_eq_getElem hlt]
    rw [Array.getD_eq_getD_getElem?, Array.getElem?_eq_getElem hlt] at e
    simp only [Option.getD_some] at e
    rw [e]
  · rw [Array.getElem?_eq_none hge]
theorem awpOps_sound {N : Nat} {B : Base} {ops : Array Oper} {K : St → Prop} {Q : Exit → Act → World → Prop} (hok : opsOK N ops = true) (hq : ∀ S a w, Rel N B S a w → K S → Q .normal a w) :
    ∀ (l : List Nat) (S : St) (a : Act) (w : World), Rel N B S a w → awpOps P ops K l S → wpOps P ops Q l a w
  | [], S, a, w, hR, h => hq S a w hR h
  | i :: rest, S, a, w, hR, h => by
    simp only [awpOps] at h
    simp only [wpOps]
    cases ho : ops[i]? with
    | none => simp only [ho] at h; exact awpOps_sound hok hq rest S a w hR h
    | some o =>
      simp only [ho] at h
      have hd : ∀ d, o.dst = some d → d < N := by
        intro d hd
        have hm : o ∈ ops := Array.mem_of_getElem? ho
        have := (Array.all_eq_true_iff_forall_mem.1 hok) o hm
        simpa [hd] using this
      have hskip : Rel N B (S.put o.dst (.tuple []) S.σ []) (a.put o.dst undef) w := by
        obtain ⟨hsz, hdf, β, I, hi, htm, hst, hk⟩ := hR
        exact put_rel hsz hdf htm hst hk hd VR_undef hi (Step.refl _ _ _) (Keeps.refl _)
      cases hg : o.guard with
      | none =>
        simp only [hg] at h
        have hw : Region.wanted o (yielded ops a.tmps) = true := by simp [Region.wanted, hg]
        simp only [hw, if_true]
        exact .inl (stepO_sound hd hR h fun S' a' w' hR' h' => awpOps_sound hok hq rest S' a' w' hR' h')
      | some jw =>
        obtain ⟨j, want⟩ := jw
        simp only [hg] at h
        cases hdj : (ops[j]?).bind (·.dst) with
        | none => simp [hdj] at h
        | some d =>
          simp only [hdj] at h
          split at h
          · rename_i b hb
            have hy : yielded ops a.tmps j = some b := by
              obtain ⟨hsz, hdf, β, I, hi, htm, hst, hk⟩ := hR
              have hv := htm d
              rw [hb] at hv
              simp only [VR] at hv
              simp only [yielded, hdj, Option.bind_some]
              have hdl : d < a.tmps.size := by
                rcases Nat.lt_or_ge d a.tmps.size with h | h
                · exact h
                · have := hv.1
                  rw [Array.getD_eq_getD_getElem?, Array.getElem?_eq_none h] at this
                  simp [undef] at this
              have : a.tmps[d]? = some (.bool b) := by
                rw [Array.getElem?_eq_getElem hdl]
                have := hv.1
                rw [Array.getD_eq_getD_getElem?, Array.getElem?_eq_getElem hdl] at this
                simpa using this
              rw [this]
            by_cases hbw : b = want
            · have hw : Region.wanted o (yielded ops a.tmps) = true := by simp [Region.wanted, hg, hy, hbw]
              simp only [hw, if_true]
              exact .inl (stepO_sound hd hR (h.1 hbw) fun S' a' w' hR' h' => awpOps_sound hok hq rest S' a' w' hR' h')
            · have hw : Region.wanted o (yielded ops a.tmps) = false := by simp [Region.wanted, hg, hy, hbw]
              simp only [hw, Bool.false_eq_true, if_false]
              exact awpOps_sound hok hq rest _ _ w hskip (h.2 hbw)
          · rename_i ht
            have hy : yielded ops a.tmps j = none := by
              obtain ⟨hsz, hdf, β, I, hi, htm, hst, hk⟩ := hR
              exact yielded_none hdj (by have := htm d; rwa [ht] at this)
            have hw : Region.wanted o (yielded ops a.tmps) = false := by simp [Region.wanted, hg, hy]
            simp only [hw, Bool.false_eq_true, if_false]
            exact awpOps_sound hok hq rest _ _ w hskip h
          · exact h.elim
end
end Go.Ai
