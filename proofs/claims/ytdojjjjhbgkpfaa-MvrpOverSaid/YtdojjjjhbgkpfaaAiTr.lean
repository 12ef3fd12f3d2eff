/- An interpreter of the language over data, and the proof that what it answers is what the machine does; no condition. -/
import Derived.Test.YtdojjjjhbgkpfaaMvpCb
set_option linter.unusedVariables false
set_option linter.unusedSimpArgs false
namespace Go.Ai
/-! ## A region that draws its order: all its orders, as a tree -/
inductive Tr where
  | leaf
  | none
  | alt (i : Nat) (t o : Tr)
section
variable {P : Program} {W : List FuncId}
def awpTr (P : Program) (W : List FuncId) (ops : Array Oper) (Q : St → Prop) : Tr → St → Prop
  | .leaf, S => Q S
  | .none, _ => True
  | .alt i t o, S => awpD P W ops (awpTr P W ops Q t) [i] S ∧ awpTr P W ops Q o S
def Tr.heads : Tr → List Nat
  | .alt i _ o => i :: o.heads
  | _ => []
def Tr.isLeaf : Tr → Bool
  | .leaf => true
  | _ => false
def Tr.at (t : Tr) (ops : Array Oper) (l : Array Bool) : Bool := (Region.ready .any ops l).all (fun i => t.heads.contains i) && ((Region.ready .any ops l).isEmpty == t.isLeaf)
def Tr.ok (ops : Array Oper) : Tr → Nat → Array Bool → Bool
  | .leaf, _, _ => true
  | .none, _, _ => true
  | .alt _ _ _, 0, _ => false
  | .alt i t o, n + 1, l => t.at ops (l.setIfInBounds i true) && (t.ok ops n (l.setIfInBounds i true) && o.ok ops (n + 1) l)
theorem tr_sound {N : Nat} {B : Base} {ops : Array Oper} {K : St → Prop} {Q : Exit → Act → World → Prop} (hok : opsOK N ops = true) (hq : ∀ S a w, Rel N B S a w → K S → Q .normal a w) :
    ∀ (n : Nat) (t : Tr) (l : Array Bool) (S : St) (a : Act) (w : World), t.at ops l = true → t.ok ops n l = true → Rel N B S a w → awpTr P W ops K t S → wpAny P .any ops Q n l a w := by
  intro n
  induction n with
  | zero =>
    intro t l S a w ha ht hR h
    simp only [Tr.at, Bool.and_eq_true, beq_iff_eq] at ha
    cases t with
    | leaf =>
      simp only [Tr.isLeaf, List.isEmpty_iff] at ha
      exact ⟨ha.2, hq S a w hR h⟩
    | none =>
      exfalso
      have h2 := ha.2
      have h1 := ha.1
      simp only [Tr.isLeaf, List.isEmpty_eq_false_iff_exists_mem] at h2
      obtain ⟨i, hi⟩ := h2
      have := List.all_eq_true.1 h1 i hi
      simp [Tr.heads] at this
    | alt i t o => simp [Tr.ok] at ht
  | succ n ih =>
    intro t l S a w ha ht hR h
    simp only [Tr.at, Bool.and_eq_true, beq_iff_eq] at ha
    refine ⟨fun hr => ?_, fun i hi => ?_⟩
    · cases t with
      | leaf => exact hq S a w hR h
      | none => simp [Tr.isLeaf, hr] at ha
      | alt i t o => simp [Tr.isLeaf, hr] at ha
    · have hh := List.all_eq_true.1 ha.1 i hi
      simp only [List.contains_iff_mem] at hh
      have key : ∀ (t : Tr), t.ok ops (n + 1) l = true → awpTr P W ops K t S → i ∈ t.heads → wpOp P ops Q i (wpAny P .any ops Q n (l.setIfInBounds i true)) a w := by
        intro t
        induction t with
        | leaf => intro _ _ hm; simp [Tr.heads] at hm
        | none => intro _ _ hm; simp [Tr.heads] at hm
        | alt j t o iht iho =>
          intro hk hA hm
          simp only [Tr.ok, Bool.and_eq_true] at hk
          simp only [awpTr] at hA
          simp only [Tr.heads, List.mem_cons] at hm
          by_cases e : i = j
          · subst e
            obtain ⟨S', h1, h2⟩ := awpD_runs hA.1
            obtain ⟨S1, h3, h4⟩ := h1
            simp only [Runs] at h4
            subst h4
            exact One_sound hok hR h3 fun a' w' hR' => ih t _ _ a' w' hk.1 hk.2.1 hR' h2
          · exact iho hk.2.2 hA.2 (hm.resolve_left e)
      exact key t ht h hh
def Tr.allOK (t : Tr) (ops : Array Oper) : Bool := t.at ops (Array.replicate ops.size false) && t.ok ops ops.size (Array.replicate ops.size false)
/-- All the orders of a region, told one by one; each ends alike. -/
theorem awp_tree (W : List FuncId) (t : Tr) {id : Nat} {ops : Array Oper} {Q : Ctl → St → Prop} {S : St} (S0 : St) (ht : t.allOK ops = true) (h : awpTr P W ops (weakQ S0 .normal) t S) (h0 : Q .normal S0) : awp P (.region id ops true) Q S := by
  refine awp_drawB (fun S' => S' = S0) ?_ fun S' h => by subst h; exact h0
  intro N B id' Qx a w hm hok hR hq
  simp only [Tr.allOK, Bool.and_eq_true] at ht
  refine wp_region_any hm ?_
  have hR' : Rel N B S a { w with drawn := w.drawn + 1 } := by
    obtain ⟨hsz, hdf, β, I, hi, htm, hst, hk⟩ := hR
    exact ⟨hsz, hdf, β, I, ⟨hi.imm, hi.blk, hi.live, hi.inj⟩, htm, ⟨hst.os, hst.tape, hst.output, hst.size, hst.frame, hst.mono, hst.fresh, hst.tags⟩, hk⟩
  exact tr_sound hok (fun S1 a1 w1 hR1 hK => hq S0 a1 w1 (hR1.weak hK) rfl) ops.size t _ S a _ ht.1 ht.2 hR' h
theorem awpTr_leaf {ops : Array Oper} {S0 S : St} (h : Weak S S0) : awpTr P W ops (weakQ S0 .normal) .leaf S := h
theorem awpTr_noneT {ops : Array Oper} {Q : St → Prop} {S : St} : awpTr P W ops Q .none S = True := rfl
structure TrAnd (A B : Prop) : Prop where
  a : A
  b : B
theorem TrAnd_true (A : Prop) : TrAnd A True = A := propext ⟨fun h => h.a, fun h => ⟨h, trivial⟩⟩
theorem trAnd_mk {A B : Prop} (a : A) (b : B) : TrAnd A B := ⟨a, b⟩
def trK (P : Program) (W : List FuncId) (ops : Array Oper) (Q : St → Prop) (t : Tr) : Ctl → St → Prop := fun _ => awpTr P W ops Q t
theorem awpTr_altT {ops : Array Oper} {Q : St → Prop} {i : Nat} {t o : Tr} {S : St} : awpTr P W ops Q (.alt i t o) S = TrAnd (awpD P W ops (trK P W ops Q t .normal) [i] S) (awpTr P W ops Q o S) := propext ⟨fun h => ⟨h.1, h.2⟩, fun h => ⟨h.a, h.b⟩⟩
theorem trK_eq {ops : Array Oper} {Q : St → Prop} {t : Tr} {c : Ctl} {S : St} : trK P W ops Q t c S = awpTr P W ops Q t S := rfl
end
end Go.Ai
