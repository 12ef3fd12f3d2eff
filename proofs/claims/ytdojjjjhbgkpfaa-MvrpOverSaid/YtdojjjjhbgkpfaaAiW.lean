/- An interpreter of the language over data, and the proof that what it answers is what the machine does; no condition. -/
import Derived.Test.YtdojjjjhbgkpfaaAiD
import Derived.Scope
set_option linter.unusedVariables false
set_option linter.unusedSimpArgs false
namespace Go.Ai
/-- A state that knows less. -/
def Weak (S S0 : St) : Prop :=
  (∀ t ∈ S.mv, t ∈ S0.mv) ∧ ∀ β I w, Inv β I S.σ w → ∃ β' I', Inv β' I' S0.σ w ∧ Step β I w β' I' w ∧ (∀ i c, VR β I (S.tm i) c → VR β' I' (S0.tm i) c) ∧ Keeps S0.mv β β'
def loopN (W : (Ctl → St → Prop) → St → Prop) (Q : Ctl → St → Prop) : Nat → St → Prop
  | 0, _ => False
  | n + 1, S => W (fun c S' => match c with
      | .normal => ∃ S0, Weak S' S0 ∧ loopN W Q n S0
      | c => Q c S') S
/-- Behind what both orders have in common: each of them ends in what is known of both. -/
def weakQ (S0 : St) : Ctl → St → Prop := fun _ S => Weak S S0
def twoQ (P : Program) (W : List FuncId) (ops : Array Oper) (i j : Nat) (B1 B2 : List Nat) (Q : Ctl → St → Prop) : Ctl → St → Prop := fun _ S =>
  ∃ S0, awpD P W ops (weakQ S0 .normal) (i :: j :: B1) S ∧ awpD P W ops (weakQ S0 .normal) (j :: i :: B2) S ∧ Q .normal S0
/-- What a region that draws its order is known to do, however that was shown. -/
def DrawnBy (P : Program) (ops : Array Oper) (S : St) (K : St → Prop) : Prop :=
  ∀ (N : Nat) (B : Base) (id : Nat) (Qx : Exit → Act → World → Prop) (a : Act) (w : World), P.follows .mixedOrders = true → opsOK N ops = true → Rel N B S a w → (∀ S' a' w', Rel N B S' a' w' → K S' → Qx .normal a' w') → (Code.region id ops true).wp P Qx a w
def nodef (ops : Array Oper) : Bool := ops.all fun o => match o.op with | .defer _ => false | _ => true
/-- Codes that a round of a loop over a function may run. -/
def codeOKr (N : Nat) : Code → Bool
  | .skip | .label _ | .exit _ => true
  | .region _ ops false => opsOK N ops && nodef ops
  | .seq a b => codeOKr N a && codeOKr N b
  | .cond _ a b => codeOKr N a && codeOKr N b
  | .block _ b => codeOKr N b
  | _ => false
/-- What a loop over a function is known to do, however that was shown. -/
def RangeBy (P : Program) (g : Operand) (ps : Array Tmp) (assign body : Code) (S : St) (K : St → Prop) : Prop :=
  ∀ (N : Nat) (B : Base) (Qx : Exit → Act → World → Prop) (a : Act) (w : World), P.follows .mixedOrders = true → codeOKr N assign = true → codeOKr N body = true → (ps.all fun p => decide (p < N)) = true → Rel N B S a w → (∀ B' S' a' w', Ext B B' → Rel N B' S' a' w' → K S' → Qx .normal a' w') → (Code.rangeFunc g ps assign body).wp P Qx a w
def awp (P : Program) : Code → (Ctl → St → Prop) → St → Prop
  | .skip, Q, S => Q .normal S
  | .label _, Q, S => Q .normal S
  | .region _ ops false, Q, S => awpOps P ops (Q .normal) (List.range ops.size) S
  | .region _ ops true, Q, S => (∃ W ord anc, drawOK W ord anc ops = true ∧ awpD P W ops (Q .normal) ord S) ∨
    (∃ W A i j B1 B2 anc1 anc2, drawT W A i j B1 B2 anc1 anc2 ops = true ∧ awpD P W ops (twoQ P W ops i j B1 B2 Q .normal) A S) ∨
    ∃ K : St → Prop, DrawnBy P ops S K ∧ ∀ S', K S' → Q .normal S'
  | .seq a b, Q, S => awp P a (fun c S' => match c with
      | .normal => awp P b Q S'
      | c => Q c S') S
  | .cond c a b, Q, S => match evS S.tm c with
    | .s (.bool t) => (t = true → awp P a Q S) ∧ (t = false → awp P b Q S)
    | _ => False
  | .block id b, Q, S => awp P b (fun c S' => match c with
      | .exit i => if i = id then Q .normal S' else Q (.exit i) S'
      | c => Q c S') S
  | .loop b, Q, S => ∃ n S0, Weak S S0 ∧ loopN (awp P b) Q n S0
  | .scope b, Q, S => awp P b Q S
  | .rangeFunc g ps as b, Q, S => ∃ K : St → Prop, RangeBy P g ps as b S K ∧ ∀ S', K S' → Q .normal S'
  | .exit id, Q, S => Q (.exit id) S
  | .ret, Q, S => Q .ret S
  | _, _, _ => False
def codeOK (N : Nat) : Code → Bool
  | .skip | .label _ | .exit _ | .ret => true
  | .rangeFunc _ ps a b => codeOKr N a && (codeOKr N b && ps.all fun p => decide (p < N))
  | .region _ ops _ => opsOK N ops
  | .seq a b => codeOK N a && codeOK N b
  | .cond _ a b => codeOK N a && codeOK N b
  | .block _ b => codeOK N b
  | .loop b => codeOK N b
  | .scope b => codeOK N b
  | _ => false
section
variable {P : Program}
theorem Rel.weak {N : Nat} {B : Base} {S S0 : St} {a : Act} {w : World} (hR : Rel N B S a w) (h : Weak S S0) : Rel N B S0 a w := by
  obtain ⟨hsz, hdf, β, I, hi, htm, hst, hk⟩ := hR
  obtain ⟨hm, h⟩ := h
  obtain ⟨β', I', h1, h2, h3, h4⟩ := h β I w hi
  refine ⟨hsz, ⟨hdf.1, fun t ht => hm t (hdf.2 t ht)⟩, β', I', h1, fun i => h3 i _ (htm i), hst.trans h2, ?_⟩
  intro t x hx ht
  exact h4 t x (hk t x hx fun h => ht (hm t h)) ht
theorem rounds_mono {c : Code} {Q Q' : Exit → Act → World → Prop} (h : ∀ e a w, Q e a w → Q' e a w) : ∀ {n : Nat} {a : Act} {w : World}, Code.rounds P c Q n a w → Code.rounds P c Q' n a w
  | 0, _, _, k => k
  | n + 1, a, w, k => by
    rw [rounds_succ] at k ⊢
    refine wp_mono k fun e a' w' hk => ?_
    cases e with
    | normal => exact rounds_mono h hk
    | _ => exact h _ _ _ hk
theorem awp_sound (hm : P.follows .mixedOrders = true) {N : Nat} : ∀ {B : Base} (c : Code) (Q : Ctl → St → Prop) (S : St) (a : Act) (w : World), codeOK N c = true → Rel N B S a w → awp P c Q S → c.wp P (Lift N B Q) a w
  | B, .skip, Q, S, a, w, _, hR, h => wp_skip ⟨.normal, S, B, Ext.refl B, trivial, hR, h⟩
  | B, .label _, Q, S, a, w, _, hR, h => wp_label ⟨.normal, S, B, Ext.refl B, trivial, hR, h⟩
  | B, .exit id, Q, S, a, w, _, hR, h => wp_exit ⟨.exit id, S, B, Ext.refl B, rfl, hR, h⟩
  | B, .ret, Q, S, a, w, _, hR, h => wp_ret ⟨.ret, S, B, Ext.refl B, trivial, hR, h⟩
  | B, .region id ops false, Q, S, a, w, hok, hR, h => by
    simp only [codeOK] at hok
    exact wp_region (awpOps_sound hok (fun S' a' w' hR' h' => ⟨.normal, S', B, Ext.refl B, trivial, hR', h'⟩) _ S a w hR h)
  | B, .region id ops true, Q, S, a, w, hok, hR, h => by
    simp only [codeOK] at hok
    rcases h with ⟨W, ord, anc, hW, h⟩ | ⟨W, A, i, j, B1, B2, anc1, anc2, hW, h⟩ | ⟨K, hD, h⟩
    · exact awpD_sound hm hok hW (fun S' a' w' hR' h' => ⟨.normal, S', B, Ext.refl B, trivial, hR', h'⟩) S a w hR h
    · refine awpT_sound (K := fun _ => True) hm hok hW S a w hR h fun S' ⟨S0, h1, h2, h3⟩ => ⟨weakQ S0 .normal, h1, h2, fun S1 a' w' hR' hw => ⟨.normal, S0, B, Ext.refl B, trivial, hR'.weak hw, h3⟩⟩
    · exact hD N B _ _ a w hm hok hR fun S' a' w' hR' hk => ⟨.normal, S', B, Ext.refl B, trivial, hR', h S' hk⟩
  | B, .seq x y, Q, S, a, w, hok, hR, h => by
    simp only [codeOK, Bool.and_eq_true] at hok
    refine wp_seq (wp_mono (awp_sound hm x _ S a w hok.1 hR h) fun e a' w' ⟨c, S', B', hx, hc, hR', hq⟩ => ?_)
    cases c with
    | normal => cases e <;> first | exact wp_mono (awp_sound hm y Q S' a' w' hok.2 hR' hq) (fun _ _ _ hl => hl.ext hx) | exact hc.elim
    | ret => cases e <;> first | exact ⟨.ret, S', B', hx, hc, hR', hq⟩ | exact hc.elim
    | exit i => cases e <;> first | exact ⟨.exit i, S', B', hx, hc, hR', hq⟩ | exact hc.elim
  | B, .cond c x y, Q, S, a, w, hok, hR, h => by
    simp only [codeOK, Bool.and_eq_true] at hok
    simp only [awp] at h
    split at h
    · rename_i t ht
      have hv : a.eval c = .bool t := by
        obtain ⟨hsz, hdf, β, I, hi, htm, hst, hk⟩ := hR
        have := evS_rel htm c
        rw [ht] at this
        simp only [VR] at this
        exact this.1
      cases t with
      | true => exact wp_cond hv (by simpa using awp_sound hm x Q S a w hok.1 hR (h.1 rfl))
      | false => exact wp_cond hv (by simpa using awp_sound hm y Q S a w hok.2 hR (h.2 rfl))
    · exact h.elim
  | B, .block id b, Q, S, a, w, hok, hR, h => by
    simp only [codeOK] at hok
    refine wp_block (wp_mono (awp_sound hm b _ S a w hok hR h) fun e a' w' ⟨c, S', B', hx, hc, hR', hq⟩ => ?_)
    cases c with
    | normal => cases e <;> first | exact ⟨.normal, S', B', hx, trivial, hR', hq⟩ | exact hc.elim
    | ret => cases e <;> first | exact ⟨.ret, S', B', hx, trivial, hR', hq⟩ | exact hc.elim
    | exit i =>
      cases e with
      | exit j =>
        simp only [CR] at hc
        subst hc
        simp only [Exit.inBlock]
        by_cases e : i = id
        · rw [if_pos e]
          simp only [e, if_true] at hq
          exact ⟨.normal, S', B', hx, trivial, hR', hq⟩
        · rw [if_neg e]
          simp only [e, if_false] at hq
          exact ⟨.exit i, S', B', hx, rfl, hR', hq⟩
      | _ => exact hc.elim
  | B, .loop b, Q, S, a, w, hok, hR, h => by
    simp only [codeOK] at hok
    simp only [awp] at h
    obtain ⟨n, S0, hw, h⟩ := h
    refine wp_loop_rounds n ?_
    have key : ∀ n B S a w, Rel N B S a w → loopN (awp P b) Q n S → Code.rounds P b (Lift N B Q) n a w := by
      intro n
      induction n with
      | zero => intro B S a w _ h; exact h.elim
      | succ n ih =>
        intro B S a w hR h
        rw [rounds_succ]
        refine wp_mono (awp_sound hm b _ S a w hok hR h) fun e a' w' ⟨c, S', B', hx, hc, hR', hq⟩ => ?_
        cases c with
        | normal =>
          cases e with
          | normal =>
            obtain ⟨S1, hw1, hq⟩ := hq
            exact rounds_mono (fun _ _ _ hl => Lift.ext hx hl) (ih B' S1 a' w' (hR'.weak hw1) hq)
          | _ => exact hc.elim
        | ret => cases e <;> first | exact ⟨.ret, S', B', hx, trivial, hR', hq⟩ | exact hc.elim
        | exit i => cases e <;> first | exact ⟨.exit i, S', B', hx, hc, hR', hq⟩ | exact hc.elim
    exact key n B S0 a w (hR.weak hw) h
  | B, .rangeFunc g ps as b, Q, S, a, w, hok, hR, h => by
    obtain ⟨K, hK, h⟩ := h
    simp only [codeOK, Bool.and_eq_true] at hok
    exact hK N B _ a w hm hok.1 hok.2.1 hok.2.2 hR fun B' S' a' w' hx hR' hk => ⟨.normal, S', B', hx, trivial, hR', h S' hk⟩
  | B, .scope b, Q, S, a, w, hok, hR, h => by
    simp only [codeOK] at hok
    simp only [awp] at h
    refine wp_scope_straight (wp_mono (awp_sound hm b Q S a w hok hR h) fun e a' w' ⟨c, S', B', hx, hc, hR', hq⟩ => ?_)
    cases e with
    | goto l => cases c <;> exact hc.elim
    | _ => exact ⟨c, S', B', hx, hc, hR', hq⟩
  | B, .goto _, _, _, _, _, hok, _, _ => by simp [codeOK] at hok
  | B, .refuse _, _, _, _, _, hok, _, _ => by simp [codeOK] at hok
end
end Go.Ai
