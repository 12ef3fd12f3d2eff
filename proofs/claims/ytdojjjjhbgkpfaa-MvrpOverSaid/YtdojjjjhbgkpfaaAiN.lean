/- An interpreter of the language over data, and the proof that what it answers is what the machine does; no condition. -/
import Derived.Test.YtdojjjjhbgkpfaaAiP
set_option linter.unusedVariables false
set_option linter.unusedSimpArgs false
namespace Go.Ai
/-! ## Heads of loops: what may be forgotten there -/
theorem Weak.trans {S S1 S2 : St} (h : Weak S S1) (k : Weak S1 S2) : Weak S S2 := by
  refine ⟨fun t ht => k.1 t (h.1 t ht), fun β I w hi => ?_⟩
  obtain ⟨β1, I1, i1, s1, t1, k1⟩ := h.2 β I w hi
  obtain ⟨β2, I2, i2, s2, t2, k2⟩ := k.2 β1 I1 w i1
  exact ⟨β2, I2, i2, s1.trans s2, fun i c hv => t2 i c (t1 i c hv), fun t x hx ht => k2 t x (k1 t x hx (fun hm => ht (k.1 t hm))) ht⟩
/-- A slice is frozen. -/
theorem Weak.frz (i : Nat) {tm : Nat → V} {σ σ1 : List Blk} {mv : List Nat} {t : T} (h : frz1 σ (tm i) = some (t, σ1)) : Weak ⟨tm, σ, mv⟩ ⟨upd tm i t.toV, σ1, mv⟩ := by
  refine ⟨fun _ h => h, fun β I w hi => ?_⟩
  by_cases hc : ∃ c, VR β I (tm i) c
  · obtain ⟨c0, hc0⟩ := hc
    obtain ⟨I', i1, s1, t1⟩ := frz1_sound hi h hc0
    refine ⟨β, I', i1, s1, fun j c hv => ?_, fun _ _ hx _ => hx⟩
    show VR β I' (upd tm i t.toV j) c
    unfold upd
    split
    · rename_i e
      subst e
      change VR β I (tm j) c at hv
      -- the same value is read twice: its shape tells it
      obtain ⟨I2, i2, s2, t2⟩ := frz1_sound hi h hv
      revert t2
      cases hv' : tm j with
      | s v =>
        rw [hv'] at h hv
        simp only [frz1, Option.some.injEq, Prod.mk.injEq] at h
        obtain ⟨rfl, rfl⟩ := h
        intro _
        simpa [T.toV, VR] using hv
      | sl z rows =>
        rw [hv'] at h hv
        simp only [frz1, Option.some.injEq, Prod.mk.injEq] at h
        obtain ⟨rfl, rfl⟩ := h
        intro _
        exact VR.mono (fun _ _ hx _ => hx) s1.mono hv
      | emp =>
        rw [hv'] at h hv
        simp only [frz1, Option.some.injEq, Prod.mk.injEq] at h
        obtain ⟨rfl, rfl⟩ := h
        intro _
        simp only [VR] at hv
        obtain ⟨a, rfl⟩ := hv
        simp [T.toV, VR, TR]
      | own tg off len =>
        rw [hv'] at h hv hc0
        intro _
        have e : c = c0 ∨ (len = 0 ∧ (∃ a cap, c = .slice a 0 cap)) := by
          simp only [VR] at hv hc0
          rcases hv with ⟨x, h1, h2⟩ | ⟨h1, h2, h3, a, h4⟩
          · rcases hc0 with ⟨y, g1, g2⟩ | ⟨g1, _⟩
            · rw [h1] at g1
              cases g1
              rcases h2 with ⟨h2, h3⟩ | ⟨h2, _, a, h3⟩
              · rcases g2 with ⟨_, g3⟩ | ⟨g2, g4, _⟩
                · exact .inl (h3.trans g3.symm)
                · subst g2; exact .inr ⟨rfl, _, _, h3⟩
              · exact .inr ⟨h2, _, _, h3⟩
            · rw [h1] at g1; cases g1
          · exact .inr ⟨h3, _, _, h4⟩
        rcases e with rfl | ⟨rfl, a, cap, rfl⟩
        · exact TR.toV t1
        · simp only [frz1] at h
          split at h
          · split at h
            · simp only [Option.some.injEq, Prod.mk.injEq, List.take_zero] at h
              obtain ⟨rfl, _⟩ := h
              simp [T.toV, VR, TR]
            · simp at h
          · simp at h
      | _ => rw [hv'] at h; simp [frz1] at h
    · exact VR.mono (fun _ _ hx _ => hx) s1.mono hv
  · -- nobody reads it
    have key : ∃ I' , Inv β I' σ1 w ∧ Step β I w β I' w := by
      cases hv' : tm i with
      | s v => rw [hv'] at h; simp only [frz1, Option.some.injEq, Prod.mk.injEq] at h; obtain ⟨_, rfl⟩ := h; exact ⟨I, hi, Step.refl _ _ _⟩
      | sl z rows => rw [hv'] at h; simp only [frz1, Option.some.injEq, Prod.mk.injEq] at h; obtain ⟨_, rfl⟩ := h; exact ⟨I, hi, Step.refl _ _ _⟩
      | emp => rw [hv'] at h; simp only [frz1, Option.some.injEq, Prod.mk.injEq] at h; obtain ⟨_, rfl⟩ := h; exact ⟨I, hi, Step.refl _ _ _⟩
      | own tg off len =>
        rw [hv'] at h
        -- some value is always there
        have hb : ∃ k, σ[tg]? = some k := by
          simp only [frz1] at h
          split at h
          · exact ⟨_, ‹_›⟩
          · simp at h
        obtain ⟨k, hk⟩ := hb
        have h' := h
        simp only [frz1, hk] at h'
        cases k with
        | rows z xs ro =>
          simp only at h'
          split at h'
          · rename_i hle
            have hbk := hi.blk tg _ hk
            simp only [BlkR] at hbk
            rcases hbk with ⟨hb1, rfl⟩ | ⟨b, cap, cs, e, hb1, hb2, hb3, hb4, hb5, hb6, hb7, hb8⟩
            · simp at hle
              exfalso
              refine hc ⟨.slice none 0 0, ?_⟩
              rw [hv']
              obtain ⟨rfl, rfl⟩ := hle
              simp only [VR]
              exact .inr ⟨hb1, trivial, trivial, none, rfl⟩
            · exfalso
              refine hc ⟨.slice (some ⟨b, off * z, none⟩) len (cap - off), ?_⟩
              rw [hv']
              simp only [VR]
              exact .inl ⟨_, hb1, .inl ⟨by simp only; omega, rfl⟩⟩
          · simp at h'
        | _ => simp at h'
      | _ => rw [hv'] at h; simp [frz1] at h
    obtain ⟨I', i1, s1⟩ := key
    refine ⟨β, I', i1, s1, fun j c hv => ?_, fun _ _ hx _ => hx⟩
    change VR β I (tm j) c at hv
    show VR β I' (upd tm i t.toV j) c
    unfold upd
    split
    · rename_i e; subst e; exact (hc ⟨c, hv⟩).elim
    · exact VR.mono (fun _ _ hx _ => hx) s1.mono hv
/-- A nil slice is one's own row, of no rows. -/
theorem Weak.virt (i z : Nat) {tm : Nat → V} {σ : List Blk} {mv : List Nat} (h : tm i = .s (.slice none 0 0) ∨ tm i = .emp) : Weak ⟨tm, σ, mv⟩ ⟨upd tm i (.own σ.length 0 0), σ ++ [.rows z [] false], mv⟩ := by
  refine ⟨fun _ h => h, fun β I w hi => ?_⟩
  have hnone := hi.none_ge (Nat.le_refl σ.length)
  refine ⟨Ai.ext β σ.length .virt, I, hi.push (Nat.le_refl _) (fun _ _ => rfl) _ _ (fun y hy => by cases hy) (by simp only [BlkR]; exact .inl ⟨ext_self _ _ _, trivial⟩),
    Step.push hi rfl rfl rfl (Nat.le_refl _) (fun _ _ => rfl) _ (fun y hy => by cases hy), fun j c hv => ?_, fun t x hx _ => (Keeps.ext hnone) t x hx (by simp)⟩
  change VR β I (tm j) c at hv
  show VR _ I (upd tm i (.own σ.length 0 0) j) c
  unfold upd
  split
  · rename_i e
    subst e
    have : ∃ a, c = .slice a 0 0 := by
      rcases h with h | h
      · rw [h] at hv; simp only [VR] at hv; exact ⟨none, hv.1⟩
      · rw [h] at hv; simpa only [VR] using hv
    simp only [VR]
    exact .inr ⟨ext_self _ _ _, trivial, trivial, this⟩
  · exact VR.mono (Keeps.ext hnone) (fun _ _ _ h => h) hv
/-- Some temporaries, renamed for a shorter heap. -/
def selT (k : Nat) (tm : Nat → V) : List Nat → Option (List (Nat × V))
  | [] => some []
  | i :: r => ((tm i).rn (keepF (List.range k))).bind fun v => (selT k tm r).map fun l => (i, v) :: l
theorem selT_nil (k : Nat) (tm : Nat → V) : selT k tm [] = some [] := rfl
theorem selT_cons (k : Nat) (tm : Nat → V) (i : Nat) (r : List Nat) : selT k tm (i :: r) = ((tm i).rn (keepF (List.range k))).bind fun v => (selT k tm r).map fun l => (i, v) :: l := rfl
theorem selT_ok {k : Nat} {tm : Nat → V} : ∀ {is : List Nat} {l : List (Nat × V)}, selT k tm is = some l → ∀ p ∈ l, (tm p.1).rn (keepF (List.range k)) = some p.2
  | [], l, h, p, hp => by simp [selT] at h; subst h; simp at hp
  | i :: r, l, h, p, hp => by
    simp only [selT, Option.bind_eq_some_iff, Option.map_eq_some_iff] at h
    obtain ⟨v, h1, l', h2, rfl⟩ := h
    rcases List.mem_cons.1 hp with rfl | hp
    · exact h1
    · exact selT_ok h2 p hp
theorem Weak.cutI (k : Nat) (is : List Nat) {tm : Nat → V} {σ σ0 : List Blk} {mv : List Nat} {l : List (Nat × V)} (h1 : selT k tm is = some l) (h2 : selB (keepF (List.range k)) σ (List.range k) = some σ0) :
    Weak ⟨tm, σ, mv⟩ ⟨Go.Ai.tms l, σ0, mv ++ List.range' k (σ.length - k)⟩ :=
  Weak.cut k (selT_ok h1) h2 (fun t ht => by simp [ht]) (fun t ht hl => by simp [List.mem_range'_1]; omega)
theorem upd_tmsS (l : List (Nat × V)) (d : Nat) (v : V) : upd (Go.Ai.tms l) d v = Go.Ai.tms (setT l d v) := (tms_setT d v l).symm
section
variable {P : Program}
/-- The end of a function over a heap whose result is this, once nobody writes to it. -/
def kPostKF (P : Program) (base : Nat) (kept : List Nat) (rs : List ResultVar) (v : V) (σ' : List Blk) : Ctl → St → Prop := fun c S =>
  Done c ∧ ((ares P S.tm S.σ rs).bind fun vs => (frzV false S.σ (mkRes vs)).bind fun p => compact base kept p.2 p.1) = some (v, σ') ∧ S.mv.filter (· < base) = []
theorem kPostKF_post {base : Nat} {kept : List Nat} {rs : List ResultVar} {v : V} {σ' : List Blk} {c : Ctl} {S : St} (h : kPostKF P base kept rs v σ' c S) : Post P base rs (fun r s mv => r = v ∧ s = σ' ∧ mv = []) c S := by
  obtain ⟨hd, h, hm⟩ := h
  simp only [Option.bind_eq_some_iff] at h
  obtain ⟨vs, h1, p, h2, h3⟩ := h
  exact ⟨hd, vs, h1, true, kept, v, σ', by simp [expo, h2, h3], rfl, rfl, hm⟩
theorem kPostKF_ret (base : Nat) (kept : List Nat) (rs : List ResultVar) (v : V) (σ' : List Blk) (S : St) : kPostKF P base kept rs v σ' .ret S = (((ares P S.tm S.σ rs).bind fun vs => (frzV false S.σ (mkRes vs)).bind fun p => compact base kept p.2 p.1) = some (v, σ') ∧ S.mv.filter (· < base) = []) := by simp [kPostKF, Done]
theorem kPostKF_normal (base : Nat) (kept : List Nat) (rs : List ResultVar) (v : V) (σ' : List Blk) (S : St) : kPostKF P base kept rs v σ' .normal S = (((ares P S.tm S.σ rs).bind fun vs => (frzV false S.σ (mkRes vs)).bind fun p => compact base kept p.2 p.1) = some (v, σ') ∧ S.mv.filter (· < base) = []) := by simp [kPostKF, Done]
theorem AC_heapF (hm : P.follows .mixedOrders = true) {f : FuncId} {fn : Func} {c : Code} {args : List V} {σ σ' : List Blk} {v : V} (kept : List Nat) (hf : P.funcs[f]? = some fn) (hb : fn.body = some c) (hn : callable P f = true) (hok : codeOK fn.ntmps c = true) {n : Nat} (hN : fn.ntmps = n) (hargs : args.length ≤ n)
    (h : awp P c (kPostKF P σ.length kept fn.results.toList v σ') ⟨tms ((List.range args.length).zip args), σ, []⟩) : AC P f args σ (fun r s mv => r = v ∧ s = σ' ∧ mv = []) :=
  AC_walk hm hf hb hn hok (by omega) (awp_mono c (fun _ _ h => kPostKF_post h) h)
/-- One of these values, with its heap. -/
def oneS {X : Type} (G : X → Prop) (v : X → V) (σ' : X → List Blk) : V → List Blk → List Nat → Prop := fun r s mv => mv = [] ∧ ∃ x, G x ∧ r = v x ∧ s = σ' x
def kPostX {X : Type} (P : Program) (base : Nat) (kept : List Nat) (rs : List ResultVar) (G : X → Prop) (v : X → V) (σ' : X → List Blk) : Ctl → St → Prop := fun c S =>
  Done c ∧ ∃ x, G x ∧ ((ares P S.tm S.σ rs).bind fun vs => compact base kept S.σ (mkRes vs)) = some (v x, σ' x) ∧ S.mv.filter (· < base) = []
theorem kPostX_ret {X : Type} (base : Nat) (kept : List Nat) (rs : List ResultVar) (G : X → Prop) (v : X → V) (σ' : X → List Blk) (S : St) : kPostX P base kept rs G v σ' .ret S = ∃ x, G x ∧ ((ares P S.tm S.σ rs).bind fun vs => compact base kept S.σ (mkRes vs)) = some (v x, σ' x) ∧ S.mv.filter (· < base) = [] := by simp [kPostX, Done]
theorem kPostX_normal {X : Type} (base : Nat) (kept : List Nat) (rs : List ResultVar) (G : X → Prop) (v : X → V) (σ' : X → List Blk) (S : St) : kPostX P base kept rs G v σ' .normal S = ∃ x, G x ∧ ((ares P S.tm S.σ rs).bind fun vs => compact base kept S.σ (mkRes vs)) = some (v x, σ' x) ∧ S.mv.filter (· < base) = [] := by simp [kPostX, Done]
theorem awp_drawI (i : Nat) (W : List FuncId) (ord anc : List Nat) {ops : Array Oper} {Q : Ctl → St → Prop} {S : St} (hW : drawOK W ord anc ops = true) (h : awpD P W ops (Q .normal) ord S) : awp P (.region i ops true) Q S := awp_drawO W ord anc hW h
end
end Go.Ai
