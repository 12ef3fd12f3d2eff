/- An interpreter of the language over data, and the proof that what it answers is what the machine does; no condition. -/
import Derived.Test.YtdojjjjhbgkpfaaAiA
import Derived.IntWalk
set_option linter.unusedVariables false
set_option linter.unusedSimpArgs false
namespace Go.Ai
/-! ## Walking: states as lists of named values, loops by an invariant -/
def tms : List (Nat × V) → Nat → V
  | [], _ => .undef
  | (j, v) :: r, i => if i = j then v else tms r i
theorem tms_nil (i : Nat) : tms [] i = .undef := rfl
theorem tms_cons (j : Nat) (v : V) (r : List (Nat × V)) (i : Nat) : tms ((j, v) :: r) i = if i = j then v else tms r i := rfl
def setT : List (Nat × V) → Nat → V → List (Nat × V)
  | [], d, v => [(d, v)]
  | (j, w) :: r, d, v => if d = j then (d, v) :: r else (j, w) :: setT r d v
theorem setT_nil (d : Nat) (v : V) : setT [] d v = [(d, v)] := rfl
theorem setT_cons (j : Nat) (w : V) (r : List (Nat × V)) (d : Nat) (v : V) : setT ((j, w) :: r) d v = if d = j then (d, v) :: r else (j, w) :: setT r d v := rfl
theorem tms_setT (d : Nat) (v : V) : ∀ l : List (Nat × V), tms (setT l d v) = upd (tms l) d v
  | [] => by funext i; simp [setT, tms, upd]
  | (j, w) :: r => by
    funext i
    have ih := congrFun (tms_setT d v r) i
    rw [setT_cons]
    by_cases e : d = j
    · subst e; rw [if_pos rfl]; simp only [tms, upd]; split <;> rfl
    · rw [if_neg e]
      simp only [tms, upd] at ih ⊢
      rw [ih]
      by_cases e1 : i = j
      · subst e1; simp [Ne.symm e]
      · simp [e1]
section
variable {P : Program} {W : List FuncId}
theorem stepO_mono {o : Oper} {S : St} {K K' : St → Prop} (hk : ∀ S, K S → K' S) (h : stepO P o S K) : stepO P o S K' := by
  unfold stepO at *
  split
  · rename_i c hop
    simp only [hop] at h
    split
    · rename_i f hf
      simp only [hf] at h
      split
      · rename_i k first caps hfv
        simp only [hfv] at h
        exact AC.mono h fun r σ' mv => hk _
      · rename_i hne
        split at h
        · rename_i k first caps hfv; exact (hne _ _ _ hfv).elim
        · exact h
    · rename_i hne
      split at h
      · rename_i f hf; exact (hne _ hf).elim
      · split
        · rename_i v σ' mv e; rw [e] at h; exact hk _ h
        · rename_i e; rw [e] at h; exact stepX_mono (fun _ _ _ => hk _) h
  · rename_i hne
    split at h
    · rename_i c hop; exact (hne _ hop).elim
    · split
      · rename_i v σ' mv e; rw [e] at h; exact hk _ h
      · rename_i e; rw [e] at h; exact stepX_mono (fun _ _ _ => hk _) h
theorem stepD_mono {o : Oper} {S : St} {K K' : St → Prop} (hk : ∀ S, K S → K' S) (h : stepD P W o S K) : stepD P W o S K' := by
  obtain ⟨v, σ', mv, h1, h2⟩ := stepD_iff.1 h
  exact stepD_iff.2 ⟨v, σ', mv, h1, hk _ h2⟩
theorem awpOps_mono {ops : Array Oper} {K K' : St → Prop} (hk : ∀ S, K S → K' S) : ∀ {l : List Nat} {S : St}, awpOps P ops K l S → awpOps P ops K' l S
  | [], S, h => hk _ h
  | i :: rest, S, h => by
    simp only [awpOps] at h ⊢
    split
    · rename_i e; rw [e] at h; exact awpOps_mono hk h
    · rename_i o e
      rw [e] at h
      simp only at h ⊢
      split
      · rename_i eg; rw [eg] at h; exact stepO_mono (fun S => awpOps_mono hk) h
      · rename_i j want eg
        rw [eg] at h
        simp only at h ⊢
        split
        · rename_i ed; rw [ed] at h; exact h
        · rename_i d ed
          rw [ed] at h
          simp only at h ⊢
          split
          · rename_i b eb
            rw [eb] at h
            exact ⟨fun hb => stepO_mono (fun S => awpOps_mono hk) (h.1 hb), fun hb => awpOps_mono hk (h.2 hb)⟩
          · rename_i eb
            rw [eb] at h
            exact awpOps_mono hk h
          · rename_i hne hne2
            split at h
            · rename_i b eb; exact (hne _ eb).elim
            · rename_i eb; exact (hne2 eb).elim
            · exact h
theorem awpD_mono {ops : Array Oper} {K K' : St → Prop} (hk : ∀ S, K S → K' S) : ∀ {l : List Nat} {S : St}, awpD P W ops K l S → awpD P W ops K' l S
  | [], S, h => hk _ h
  | i :: rest, S, h => by
    simp only [awpD] at h ⊢
    split
    · rename_i e; rw [e] at h; exact awpD_mono hk h
    · rename_i o e
      rw [e] at h
      simp only at h ⊢
      split
      · rename_i eg; rw [eg] at h; exact stepD_mono (fun S => awpD_mono hk) h
      · rename_i j want eg
        rw [eg] at h
        simp only at h ⊢
        split
        · rename_i ed; rw [ed] at h; exact h
        · rename_i d ed
          rw [ed] at h
          simp only at h ⊢
          split
          · rename_i b eb
            rw [eb] at h
            exact ⟨fun hb => stepD_mono (fun S => awpD_mono hk) (h.1 hb), fun hb => awpD_mono hk (h.2 hb)⟩
          · rename_i eb
            rw [eb] at h
            exact awpD_mono hk h
          · rename_i hne hne2
            split at h
            · rename_i b eb; exact (hne _ eb).elim
            · rename_i eb; exact (hne2 eb).elim
            · exact h
theorem loopN_mono {W : (Ctl → St → Prop) → St → Prop} (hW : ∀ (Q Q' : Ctl → St → Prop) (S : St), (∀ c S, Q c S → Q' c S) → W Q S → W Q' S) {Q Q' : Ctl → St → Prop} (hq : ∀ c S, Q c S → Q' c S) : ∀ {n : Nat} {S : St}, loopN W Q n S → loopN W Q' n S
  | 0, S, h => h
  | n + 1, S, h => by
    refine hW _ _ _ (fun c S' h => ?_) h
    cases c with
    | normal => obtain ⟨S0, h1, h2⟩ := h; exact ⟨S0, h1, loopN_mono hW hq h2⟩
    | ret => exact hq _ _ h
    | exit i => exact hq _ _ h
theorem awp_mono : ∀ (c : Code) {Q Q' : Ctl → St → Prop} {S : St}, (∀ c S, Q c S → Q' c S) → awp P c Q S → awp P c Q' S
  | .skip, Q, Q', S, hq, h => hq _ _ h
  | .label _, Q, Q', S, hq, h => hq _ _ h
  | .exit _, Q, Q', S, hq, h => hq _ _ h
  | .ret, Q, Q', S, hq, h => hq _ _ h
  | .region _ ops false, Q, Q', S, hq, h => awpOps_mono (fun S => hq _ S) h
  | .region _ ops true, Q, Q', S, hq, h => h.imp (fun ⟨W, ord, anc, h1, h2⟩ => ⟨W, ord, anc, h1, awpD_mono (fun S => hq _ S) h2⟩)
      (Or.imp (fun ⟨W, A, i, j, B1, B2, anc1, anc2, h1, h2⟩ => ⟨W, A, i, j, B1, B2, anc1, anc2, h1, awpD_mono (fun S ⟨S0, h3, h4, h5⟩ => ⟨S0, h3, h4, hq _ S0 h5⟩) h2⟩)
        (fun ⟨K, h1, h2⟩ => ⟨K, h1, fun S' h => hq _ S' (h2 S' h)⟩))
  | .seq a b, Q, Q', S, hq, h => awp_mono a (fun c S' h => by
      cases c with
      | normal => exact awp_mono b hq h
      | ret => exact hq _ _ h
      | exit i => exact hq _ _ h) h
  | .cond c a b, Q, Q', S, hq, h => by
    simp only [awp] at h ⊢
    split
    · rename_i t e; rw [e] at h; exact ⟨fun ht => awp_mono a hq (h.1 ht), fun ht => awp_mono b hq (h.2 ht)⟩
    · rename_i hne
      split at h
      · rename_i t e; exact (hne _ e).elim
      · exact h
  | .block id b, Q, Q', S, hq, h => awp_mono b (fun c S' h => by
      cases c with
      | normal => exact hq _ _ h
      | ret => exact hq _ _ h
      | exit i =>
        simp only at h ⊢
        split
        · rename_i e; rw [if_pos e] at h; exact hq _ _ h
        · rename_i e; rw [if_neg e] at h; exact hq _ _ h) h
  | .loop b, Q, Q', S, hq, h => by
    obtain ⟨n, S0, hw, h⟩ := h
    exact ⟨n, S0, hw, loopN_mono (W := awp P b) (fun _ _ _ hq h => awp_mono b hq h) hq h⟩
  | .rangeFunc .., Q, Q', S, hq, ⟨K, h1, h2⟩ => ⟨K, h1, fun S' h => hq _ S' (h2 S' h)⟩
  | .scope b, Q, Q', S, hq, h => awp_mono b hq h
  | .goto _, Q, Q', S, hq, h => h.elim
  | .refuse _, Q, Q', S, hq, h => h.elim
/-- A LOOP, by what holds at its head after the n-th round from the end. -/
theorem awp_loop {b : Code} {Q : Ctl → St → Prop} {S : St} (I : Nat → St → Prop) (n : Nat) (S0 : St) (hw : Weak S S0) (h0 : I n S0)
    (step : ∀ n S, I n S → awp P b (fun c S' => match c with
      | .normal => ∃ m S1, m < n ∧ Weak S' S1 ∧ I m S1
      | c => Q c S') S) : awp P (.loop b) Q S := by
  refine ⟨n + 1, S0, hw, ?_⟩
  have key : ∀ k n S, n < k → I n S → loopN (awp P b) Q k S := by
    intro k
    induction k with
    | zero => intro n S hn; omega
    | succ k ih =>
      intro n S hn hI
      refine awp_mono b (fun c S' h => ?_) (step n S hI)
      cases c with
      | normal => obtain ⟨m, S1, hm, hw1, hI1⟩ := h; exact ⟨S1, hw1, ih m S1 (by omega) hI1⟩
      | ret => exact h
      | exit i => exact h
  exact key _ n S0 (Nat.lt_succ_self n) h0
theorem Weak.refl (S : St) : Weak S S := ⟨fun _ h => h, fun β I w hi => ⟨β, I, hi, Step.refl _ _ _, fun _ _ h => h, fun _ _ hx _ => hx⟩⟩
theorem Weak.tms {tm : Nat → V} {σ : List Blk} {mv : List Nat} {l : List (Nat × V)} (h : ∀ p ∈ l, tm p.1 = p.2) : Weak ⟨tm, σ, mv⟩ ⟨Go.Ai.tms l, σ, mv⟩ := by
  have key : ∀ i, Go.Ai.tms l i = tm i ∨ Go.Ai.tms l i = .undef := by
    intro i
    induction l with
    | nil => exact .inr rfl
    | cons p l ih =>
      obtain ⟨j, v⟩ := p
      rw [tms_cons]
      split
      · rename_i e; subst e; exact .inl (h (i, v) (by simp)).symm
      · exact ih fun q hq => h q (by simp [hq])
  refine ⟨fun _ h => h, fun β I w hi => ⟨β, I, hi, Step.refl _ _ _, fun i c hv => ?_, fun _ _ hx _ => hx⟩⟩
  show VR β I (Go.Ai.tms l i) c
  rcases key i with e | e
  · rw [e]; exact hv
  · rw [e]; simp [VR]
/-- What lies behind the first k tags is forgotten. -/
theorem Weak.cut (k : Nat) {tm : Nat → V} {σ σ0 : List Blk} {mv mv0 : List Nat} {l : List (Nat × V)} (h1 : ∀ p ∈ l, (tm p.1).rn (keepF (List.range k)) = some p.2) (h2 : selB (keepF (List.range k)) σ (List.range k) = some σ0)
    (h3 : ∀ t ∈ mv, t ∈ mv0) (h4 : ∀ t, k ≤ t → t < σ.length → t ∈ mv0) : Weak ⟨tm, σ, mv⟩ ⟨Go.Ai.tms l, σ0, mv0⟩ := by
  refine ⟨h3, fun β I w hi => ?_⟩
  obtain ⟨hf, i1, s1⟩ := sel_inv hi List.nodup_range h2
  refine ⟨_, I, i1, s1, fun i c hv => ?_, fun t x hx ht => ?_⟩
  · have key : (∃ p ∈ l, p.1 = i ∧ Go.Ai.tms l i = p.2) ∨ Go.Ai.tms l i = .undef := by
      clear h1
      induction l with
      | nil => exact .inr rfl
      | cons p l ih =>
        obtain ⟨j, v⟩ := p
        rw [tms_cons]
        split
        · rename_i e; subst e; exact .inl ⟨(i, v), by simp, rfl, rfl⟩
        · rcases ih with ⟨p, hp, h⟩ | h
          · exact .inl ⟨p, by simp [hp], h⟩
          · exact .inr h
    show VR _ I (Go.Ai.tms l i) c
    rcases key with ⟨p, hp, rfl, h⟩ | h
    · rw [h]; exact VR.rn hf _ (h1 p hp) hv
    · rw [h]; simp [VR]
  · have hlt := hi.lt hx
    have hk : t < k := by
      rcases Nat.lt_or_ge t k with h | h
      · exact h
      · exact (ht (h4 t h hlt)).elim
    simp [hk, hx]
theorem args_tms (args : List V) : (fun i => args.getD i V.undef) = tms ((List.range args.length).zip args) := by
  funext i
  have : ∀ (args : List V) (k i : Nat), tms ((List.range' k args.length).zip args) (k + i) = args.getD i V.undef := by
    intro args
    induction args with
    | nil => intro k i; simp [tms]
    | cons a r ih =>
      intro k i
      rw [List.length_cons, List.range'_succ, List.zip_cons_cons, tms_cons]
      cases i with
      | zero => simp
      | succ i =>
        rw [if_neg (by omega)]
        have := ih (k + 1) i
        rw [show k + (i + 1) = k + 1 + i by omega, this]
        simp
  have := this args 0 i
  rw [List.range_eq_range']
  simpa using this.symm
theorem AC_walk (hm : P.follows .mixedOrders = true) {f : FuncId} {fn : Func} {c : Code} {args : List V} {σ : List Blk} {R : V → List Blk → List Nat → Prop} (hf : P.funcs[f]? = some fn) (hb : fn.body = some c) (hn : callable P f = true) (hok : codeOK fn.ntmps c = true) (hargs : args.length ≤ fn.ntmps)
    (h : awp P c (Post P σ.length fn.results.toList R) ⟨tms ((List.range args.length).zip args), σ, []⟩) : AC P f args σ R :=
  AC_intro hm hf hb hn hok hargs (by rw [args_tms]; exact h)
/-! ### The walk, continuation by continuation -/
def eqR (v : V) : V → List Blk → List Nat → Prop := fun r σ' mv => r = v ∧ σ' = [] ∧ mv = []
def kSeq (P : Program) (b : Code) (Q : Ctl → St → Prop) : Ctl → St → Prop := fun c S' => match c with
  | .normal => awp P b Q S'
  | c => Q c S'
def kBlock (id : Nat) (Q : Ctl → St → Prop) : Ctl → St → Prop := fun c S' => match c with
  | .exit i => if i = id then Q .normal S' else Q (.exit i) S'
  | c => Q c S'
def kLoop (I : Nat → St → Prop) (n : Nat) (Q : Ctl → St → Prop) : Ctl → St → Prop := fun c S' => match c with
  | .normal => ∃ m S1, m < n ∧ Weak S' S1 ∧ I m S1
  | c => Q c S'
/-- The end of a function whose result is this. -/
def kPost (P : Program) (rs : List ResultVar) (v : V) : Ctl → St → Prop := fun c S =>
  Done c ∧ ((ares P S.tm S.σ rs).bind fun vs => (mkRes vs).rn (keepF [])) = some v
/-- The end of a function whose result is this, once nobody writes to it. -/
def kPostF (P : Program) (rs : List ResultVar) (v : V) : Ctl → St → Prop := fun c S =>
  Done c ∧ ((ares P S.tm S.σ rs).bind fun vs => (frzV false S.σ (mkRes vs)).bind fun p => p.1.rn (keepF [])) = some v
theorem kPost_post {rs : List ResultVar} {v : V} {c : Ctl} {S : St} (h : kPost P rs v c S) : Post P 0 rs (eqR v) c S := by
  obtain ⟨hd, h⟩ := h
  simp only [Option.bind_eq_some_iff] at h
  obtain ⟨vs, h1, h2⟩ := h
  refine ⟨hd, vs, h1, false, [], v, [], ?_, rfl, rfl, ?_⟩
  · simp [expo, compact, h2, selB]
  · simp
theorem kPostF_post {rs : List ResultVar} {v : V} {c : Ctl} {S : St} (h : kPostF P rs v c S) : Post P 0 rs (eqR v) c S := by
  obtain ⟨hd, h⟩ := h
  simp only [Option.bind_eq_some_iff] at h
  obtain ⟨vs, h1, p, h2, h3⟩ := h
  refine ⟨hd, vs, h1, true, [], v, [], ?_, rfl, rfl, ?_⟩
  · simp [expo, compact, h2, h3, selB]
  · simp
theorem AC_plain (hm : P.follows .mixedOrders = true) {f : FuncId} {fn : Func} {c : Code} {args : List V} {v : V} (hf : P.funcs[f]? = some fn) (hb : fn.body = some c) (hn : callable P f = true) (hok : codeOK fn.ntmps c = true) {n : Nat} (hN : fn.ntmps = n) (hargs : args.length ≤ n)
    (h : awp P c (kPost P fn.results.toList v) ⟨tms ((List.range args.length).zip args), [], []⟩) : AC P f args [] (eqR v) :=
  AC_walk hm hf hb hn hok (by omega) (awp_mono c (fun _ _ h => kPost_post h) h)
theorem AC_frozen (hm : P.follows .mixedOrders = true) {f : FuncId} {fn : Func} {c : Code} {args : List V} {v : V} (hf : P.funcs[f]? = some fn) (hb : fn.body = some c) (hn : callable P f = true) (hok : codeOK fn.ntmps c = true) {n : Nat} (hN : fn.ntmps = n) (hargs : args.length ≤ n)
    (h : awp P c (kPostF P fn.results.toList v) ⟨tms ((List.range args.length).zip args), [], []⟩) : AC P f args [] (eqR v) :=
  AC_walk hm hf hb hn hok (by omega) (awp_mono c (fun _ _ h => kPostF_post h) h)
theorem awp_skip (Q : Ctl → St → Prop) (S : St) : awp P .skip Q S = Q .normal S := rfl
theorem awp_label (l : Nat) (Q : Ctl → St → Prop) (S : St) : awp P (.label l) Q S = Q .normal S := rfl
theorem awp_exit (i : Nat) (Q : Ctl → St → Prop) (S : St) : awp P (.exit i) Q S = Q (.exit i) S := rfl
theorem awp_scope (b : Code) (Q : Ctl → St → Prop) (S : St) : awp P (.scope b) Q S = awp P b Q S := rfl
theorem awp_ret (Q : Ctl → St → Prop) (S : St) : awp P .ret Q S = Q .ret S := rfl
theorem awp_seq (a b : Code) (Q : Ctl → St → Prop) (S : St) : awp P (.seq a b) Q S = awp P a (kSeq P b Q) S := rfl
theorem awp_block (i : Nat) (b : Code) (Q : Ctl → St → Prop) (S : St) : awp P (.block i b) Q S = awp P b (kBlock i Q) S := rfl
def condK (P : Program) (a b : Code) (Q : Ctl → St → Prop) (S : St) : V → Prop
  | .s (.bool t) => (t = true → awp P a Q S) ∧ (t = false → awp P b Q S)
  | _ => False
theorem awp_cond (c : Operand) (a b : Code) (Q : Ctl → St → Prop) (S : St) : awp P (.cond c a b) Q S = condK P a b Q S (evS S.tm c) := by
  simp only [awp]
  generalize evS S.tm c = v
  unfold condK
  rfl
theorem condK_true (a b : Code) (Q : Ctl → St → Prop) (S : St) : condK P a b Q S (.s (.bool true)) = awp P a Q S := by simp [condK]
theorem condK_false (a b : Code) (Q : Ctl → St → Prop) (S : St) : condK P a b Q S (.s (.bool false)) = awp P b Q S := by simp [condK]
theorem condK_split {a b : Code} {Q : Ctl → St → Prop} {S : St} {t : Bool} (h1 : t = true → condK P a b Q S (.s (.bool t))) (h2 : t = false → condK P a b Q S (.s (.bool t))) : condK P a b Q S (.s (.bool t)) := by
  cases t with
  | true => exact h1 rfl
  | false => exact h2 rfl
/-- An operation's turn. -/
def tail (P : Program) (ops : Array Oper) (Q : Ctl → St → Prop) (rest : List Nat) (dst : Option Tmp) (S : St) : V → List Blk → List Nat → Prop := fun v σ' mv => awpOps P ops (Q .normal) rest (S.put dst v σ' mv)
def then3 (P : Program) (S : St) (o : Oper) (K : V → List Blk → List Nat → Prop) : Option (V × List Blk × List Nat) → Prop
  | some (v, σ', mv) => K v σ' mv
  | none => stepX P (evS S.tm) S.σ o K
def callK (P : Program) (args : List V) (σ : List Blk) (K : V → List Blk → List Nat → Prop) : V → Prop
  | .clo (.func k) first caps => AC P k (first ++ args ++ caps) σ K
  | _ => False
def runK (P : Program) (S : St) (o : Oper) (K : V → List Blk → List Nat → Prop) : Prop :=
  match o.op with
  | .call c => match c.callee with
    | .value f => callK P (c.args.toList.map (evS S.tm)) S.σ K (evS S.tm f)
    | _ => then3 P S o K (aop P (evS S.tm) S.σ o)
  | _ => then3 P S o K (aop P (evS S.tm) S.σ o)
def guardK (P : Program) (ops : Array Oper) (Q : Ctl → St → Prop) (rest : List Nat) (S : St) (o : Oper) (want : Bool) : V → Prop
  | .s (.bool b) => (b = want → runK P S o (tail P ops Q rest o.dst S)) ∧ (b ≠ want → awpOps P ops (Q .normal) rest (S.put o.dst (.tuple []) S.σ []))
  | .tuple [] => awpOps P ops (Q .normal) rest (S.put o.dst (.tuple []) S.σ [])
  | _ => False
def guardD (ops : Array Oper) (tm : Nat → V) (j : Nat) : V :=
  match (ops[j]?).bind (·.dst) with
  | some d => tm d
  | none => .undef
def stepK (P : Program) (ops : Array Oper) (Q : Ctl → St → Prop) (rest : List Nat) (S : St) : Option Oper → Prop
  | none => awpOps P ops (Q .normal) rest S
  | some o => match o.guard with
    | none => runK P S o (tail P ops Q rest o.dst S)
    | some (j, want) => guardK P ops Q rest S o want (guardD ops S.tm j)
theorem then3_eq (S : St) (o : Oper) (K : V → List Blk → List Nat → Prop) (x : Option (V × List Blk × List Nat)) : (match x with
      | some (v, σ', mv) => K v σ' mv
      | none => stepX P (evS S.tm) S.σ o K) = then3 P S o K x := by
  cases x with
  | none => rfl
  | some p => rfl
theorem callK_eq (K : V → List Blk → List Nat → Prop) (args : List V) (σ : List Blk) (v : V) : (match v with
      | .clo (.func k) first caps => AC P k (first ++ args ++ caps) σ fun r σ' mv => K r σ' mv
      | _ => False) = callK P args σ K v := by
  unfold callK
  rfl
theorem runK_stepO {S : St} {o : Oper} {K : St → Prop} : stepO P o S K = runK P S o fun v σ' mv => K (S.put o.dst v σ' mv) := by
  unfold stepO runK
  cases hop : o.op with
  | call c =>
    simp only
    cases hc : c.callee with
    | value f => simp only; exact callK_eq (fun r σ' mv => K (S.put o.dst r σ' mv)) _ _ _
    | _ => simp only; exact then3_eq S o (fun r σ' mv => K (S.put o.dst r σ' mv)) _
  | _ => simp only; exact then3_eq S o (fun r σ' mv => K (S.put o.dst r σ' mv)) _
theorem awp_region (i : Nat) (ops : Array Oper) (Q : Ctl → St → Prop) (S : St) : awp P (.region i ops false) Q S = awpOps P ops (Q .normal) (List.range ops.size) S := rfl
theorem awpOps_nil (ops : Array Oper) (K : St → Prop) (S : St) : awpOps P ops K [] S = K S := rfl
theorem guardK_eq (ops : Array Oper) (Q : Ctl → St → Prop) (rest : List Nat) (S : St) (o : Oper) (want : Bool) (v : V) : (match v with
      | .s (.bool b) => (b = want → stepO P o S (awpOps P ops (Q .normal) rest)) ∧ (b ≠ want → awpOps P ops (Q .normal) rest (S.put o.dst (.tuple []) S.σ []))
      | .tuple [] => awpOps P ops (Q .normal) rest (S.put o.dst (.tuple []) S.σ [])
      | _ => False) = guardK P ops Q rest S o want v := by
  unfold guardK
  split
  · rw [runK_stepO]; rfl
  · rfl
  · rfl
theorem awpOps_cons (ops : Array Oper) (Q : Ctl → St → Prop) (i : Nat) (rest : List Nat) (S : St) : awpOps P ops (Q .normal) (i :: rest) S = stepK P ops Q rest S ops[i]? := by
  simp only [awpOps, stepK]
  cases ho : ops[i]? with
  | none => rfl
  | some o =>
    simp only
    cases hg : o.guard with
    | none => simp only; rw [runK_stepO]; rfl
    | some jw =>
      obtain ⟨j, want⟩ := jw
      simp only
      unfold guardD
      cases hd : (ops[j]?).bind (·.dst) with
      | none => simp only; unfold guardK; rfl
      | some d => simp only; exact guardK_eq ..
theorem guardK_split {ops : Array Oper} {Q : Ctl → St → Prop} {rest : List Nat} {S : St} {o : Oper} {want t : Bool} (h1 : t = true → guardK P ops Q rest S o want (.s (.bool t))) (h2 : t = false → guardK P ops Q rest S o want (.s (.bool t))) : guardK P ops Q rest S o want (.s (.bool t)) := by
  cases t with
  | true => exact h1 rfl
  | false => exact h2 rfl
theorem guardK_un (ops : Array Oper) (Q : Ctl → St → Prop) (rest : List Nat) (S : St) (o : Oper) (want : Bool) : guardK P ops Q rest S o want (.tuple []) = awpOps P ops (Q .normal) rest (S.put o.dst (.tuple []) S.σ []) := by simp [guardK]
theorem guardK_tt (ops : Array Oper) (Q : Ctl → St → Prop) (rest : List Nat) (S : St) (o : Oper) : guardK P ops Q rest S o true (.s (.bool true)) = runK P S o (tail P ops Q rest o.dst S) := by simp [guardK]
theorem guardK_ff (ops : Array Oper) (Q : Ctl → St → Prop) (rest : List Nat) (S : St) (o : Oper) : guardK P ops Q rest S o false (.s (.bool false)) = runK P S o (tail P ops Q rest o.dst S) := by simp [guardK]
theorem guardK_tf (ops : Array Oper) (Q : Ctl → St → Prop) (rest : List Nat) (S : St) (o : Oper) : guardK P ops Q rest S o true (.s (.bool false)) = awpOps P ops (Q .normal) rest (S.put o.dst (.tuple []) S.σ []) := by simp [guardK]
theorem guardK_ft (ops : Array Oper) (Q : Ctl → St → Prop) (rest : List Nat) (S : St) (o : Oper) : guardK P ops Q rest S o false (.s (.bool true)) = awpOps P ops (Q .normal) rest (S.put o.dst (.tuple []) S.σ []) := by simp [guardK]
theorem then3_some (S : St) (o : Oper) (K : V → List Blk → List Nat → Prop) (v : V) (σ' : List Blk) (mv : List Nat) : then3 P S o K (some (v, σ', mv)) = K v σ' mv := rfl
theorem then3_none (S : St) (o : Oper) (K : V → List Blk → List Nat → Prop) : then3 P S o K none = stepX P (evS S.tm) S.σ o K := rfl
theorem tail_eq (ops : Array Oper) (Q : Ctl → St → Prop) (rest : List Nat) (dst : Option Tmp) (S : St) (v : V) (σ' : List Blk) (mv : List Nat) : tail P ops Q rest dst S v σ' mv = awpOps P ops (Q .normal) rest (S.put dst v σ' mv) := rfl
theorem put_some (l : List (Nat × V)) (σ : List Blk) (mv : List Nat) (d : Nat) (v : V) (σ' : List Blk) : St.put ⟨tms l, σ, mv⟩ (some d) v σ' [] = ⟨tms (setT l d v), σ', mv⟩ := by simp [St.put, pzT, tms_setT]
theorem put_none (l : List (Nat × V)) (σ : List Blk) (mv : List Nat) (v : V) (σ' : List Blk) : St.put ⟨tms l, σ, mv⟩ none v σ' [] = ⟨tms l, σ', mv⟩ := by simp [St.put, pzT]
theorem pz_tms (mv : List Nat) (l : List (Nat × V)) : (fun i => (tms l i).pz mv) = tms (l.map fun p => (p.1, p.2.pz mv)) := by
  funext i
  induction l with
  | nil => simp [tms, V.pz]
  | cons p l ih =>
    obtain ⟨j, v⟩ := p
    rw [tms_cons, List.map_cons, tms_cons]
    split
    · rfl
    · exact ih
theorem put_some_mv (l : List (Nat × V)) (σ : List Blk) (mv : List Nat) (d : Nat) (v : V) (σ' : List Blk) (m : Nat) (ms : List Nat) : St.put ⟨tms l, σ, mv⟩ (some d) v σ' (m :: ms) = ⟨tms (setT (l.map fun p => (p.1, p.2.pz (m :: ms))) d v), σ', mv ++ m :: ms⟩ := by
  simp [St.put, pzT, pz_tms, tms_setT]
theorem kSeq_normal (b : Code) (Q : Ctl → St → Prop) (S : St) : kSeq P b Q .normal S = awp P b Q S := rfl
theorem kSeq_ret (b : Code) (Q : Ctl → St → Prop) (S : St) : kSeq P b Q .ret S = Q .ret S := rfl
theorem kSeq_exit (b : Code) (Q : Ctl → St → Prop) (S : St) (i : Nat) : kSeq P b Q (.exit i) S = Q (.exit i) S := rfl
theorem kBlock_normal (i : Nat) (Q : Ctl → St → Prop) (S : St) : kBlock i Q .normal S = Q .normal S := rfl
theorem kBlock_ret (i : Nat) (Q : Ctl → St → Prop) (S : St) : kBlock i Q .ret S = Q .ret S := rfl
theorem kBlock_exit (i j : Nat) (Q : Ctl → St → Prop) (S : St) : kBlock i Q (.exit j) S = if j = i then Q .normal S else Q (.exit j) S := rfl
theorem kLoop_normal (I : Nat → St → Prop) (n : Nat) (Q : Ctl → St → Prop) (S : St) : kLoop I n Q .normal S = ∃ m S1, m < n ∧ Weak S S1 ∧ I m S1 := rfl
theorem kLoop_ret (I : Nat → St → Prop) (n : Nat) (Q : Ctl → St → Prop) (S : St) : kLoop I n Q .ret S = Q .ret S := rfl
theorem kLoop_exit (I : Nat → St → Prop) (n : Nat) (Q : Ctl → St → Prop) (S : St) (i : Nat) : kLoop I n Q (.exit i) S = Q (.exit i) S := rfl
/-- The end of a function: this result, this heap, of which these tags are kept. -/
def kPostK (P : Program) (base : Nat) (kept : List Nat) (rs : List ResultVar) (v : V) (σ' : List Blk) : Ctl → St → Prop := fun c S =>
  Done c ∧ ((ares P S.tm S.σ rs).bind fun vs => compact base kept S.σ (mkRes vs)) = some (v, σ') ∧ S.mv.filter (· < base) = []
theorem kPostK_post {base : Nat} {kept : List Nat} {rs : List ResultVar} {v : V} {σ' : List Blk} {c : Ctl} {S : St} (h : kPostK P base kept rs v σ' c S) : Post P base rs (fun r s mv => r = v ∧ s = σ' ∧ mv = []) c S := by
  obtain ⟨hd, h, hm⟩ := h
  simp only [Option.bind_eq_some_iff] at h
  obtain ⟨vs, h1, h2⟩ := h
  exact ⟨hd, vs, h1, false, kept, v, σ', by simpa [expo] using h2, rfl, rfl, hm⟩
theorem kPostK_ret (base : Nat) (kept : List Nat) (rs : List ResultVar) (v : V) (σ' : List Blk) (S : St) : kPostK P base kept rs v σ' .ret S = (((ares P S.tm S.σ rs).bind fun vs => compact base kept S.σ (mkRes vs)) = some (v, σ') ∧ S.mv.filter (· < base) = []) := by simp [kPostK, Done]
theorem kPostK_normal (base : Nat) (kept : List Nat) (rs : List ResultVar) (v : V) (σ' : List Blk) (S : St) : kPostK P base kept rs v σ' .normal S = (((ares P S.tm S.σ rs).bind fun vs => compact base kept S.σ (mkRes vs)) = some (v, σ') ∧ S.mv.filter (· < base) = []) := by simp [kPostK, Done]
theorem AC_heap (hm : P.follows .mixedOrders = true) {f : FuncId} {fn : Func} {c : Code} {args : List V} {σ σ' : List Blk} {v : V} (kept : List Nat) (hf : P.funcs[f]? = some fn) (hb : fn.body = some c) (hn : callable P f = true) (hok : codeOK fn.ntmps c = true) {n : Nat} (hN : fn.ntmps = n) (hargs : args.length ≤ n)
    (h : awp P c (kPostK P σ.length kept fn.results.toList v σ') ⟨tms ((List.range args.length).zip args), σ, []⟩) : AC P f args σ (fun r s mv => r = v ∧ s = σ' ∧ mv = []) :=
  AC_walk hm hf hb hn hok (by omega) (awp_mono c (fun _ _ h => kPostK_post h) h)
theorem keepF_eq (kept : List Nat) (t : Nat) : keepF kept t = if t ∈ kept then some (kept.idxOf t) else none := rfl
theorem kPost_ret (rs : List ResultVar) (v : V) (S : St) : kPost P rs v .ret S = (((ares P S.tm S.σ rs).bind fun vs => (mkRes vs).rn (keepF [])) = some v) := by simp [kPost, Done]
theorem kPost_normal (rs : List ResultVar) (v : V) (S : St) : kPost P rs v .normal S = (((ares P S.tm S.σ rs).bind fun vs => (mkRes vs).rn (keepF [])) = some v) := by simp [kPost, Done]
theorem kPostF_ret (rs : List ResultVar) (v : V) (S : St) : kPostF P rs v .ret S = (((ares P S.tm S.σ rs).bind fun vs => (frzV false S.σ (mkRes vs)).bind fun p => p.1.rn (keepF [])) = some v) := by simp [kPostF, Done]
theorem kPostF_normal (rs : List ResultVar) (v : V) (S : St) : kPostF P rs v .normal S = (((ares P S.tm S.σ rs).bind fun vs => (frzV false S.σ (mkRes vs)).bind fun p => p.1.rn (keepF [])) = some v) := by simp [kPostF, Done]
theorem awp_loopK {b : Code} {Q : Ctl → St → Prop} {S : St} (I : Nat → St → Prop) (n : Nat) (S0 : St) (hw : Weak S S0) (h0 : I n S0) (step : ∀ n S, I n S → awp P b (kLoop I n Q) S) : awp P (.loop b) Q S :=
  awp_loop I n S0 hw h0 step
/-- Loops whose rounds are counted off. -/
def awpL (P : Program) (b : Code) (Q : Ctl → St → Prop) : Nat → St → Prop
  | 0, _ => False
  | n + 1, S => awp P b (fun c S' => match c with
    | .normal => awpL P b Q n S'
    | c => Q c S') S
def kUn (P : Program) (b : Code) (Q : Ctl → St → Prop) (n : Nat) : Ctl → St → Prop := fun c S' => match c with
    | .normal => awpL P b Q n S'
    | c => Q c S'
theorem awpL_succ (b : Code) (Q : Ctl → St → Prop) (n : Nat) (S : St) : awpL P b Q (n + 1) S = awp P b (kUn P b Q n) S := rfl
theorem kUn_normal (b : Code) (Q : Ctl → St → Prop) (n : Nat) (S : St) : kUn P b Q n .normal S = awpL P b Q n S := rfl
theorem kUn_ret (b : Code) (Q : Ctl → St → Prop) (n : Nat) (S : St) : kUn P b Q n .ret S = Q .ret S := rfl
theorem kUn_exit (b : Code) (Q : Ctl → St → Prop) (n : Nat) (S : St) (i : Nat) : kUn P b Q n (.exit i) S = Q (.exit i) S := rfl
theorem awpL_loop {b : Code} {Q : Ctl → St → Prop} {S : St} (n : Nat) (h : awpL P b Q n S) : awp P (.loop b) Q S := by
  refine ⟨n, S, Weak.refl S, ?_⟩
  induction n generalizing S with
  | zero => exact h
  | succ n ih =>
    refine awp_mono b (fun c S' h => ?_) h
    cases c with
    | normal => exact ⟨S', Weak.refl S', ih h⟩
    | ret => exact h
    | exit i => exact h
theorem wI64 (n : Int) (h1 : -9223372036854775808 ≤ n) (h2 : n ≤ 9223372036854775807) : IntKind.i64.wrap n = n := IntWalk.i64_in n ⟨h1, h2⟩
theorem wI32 (n : Int) (h1 : -2147483648 ≤ n) (h2 : n ≤ 2147483647) : IntKind.i32.wrap n = n := IntWalk.i32_in n ⟨h1, h2⟩
theorem wI16 (n : Int) (h1 : -32768 ≤ n) (h2 : n ≤ 32767) : IntKind.i16.wrap n = n := IntWalk.i16_in n ⟨h1, h2⟩
theorem wI8 (n : Int) (h1 : -128 ≤ n) (h2 : n ≤ 127) : IntKind.i8.wrap n = n := IntWalk.i8_in n ⟨h1, h2⟩
theorem wU64 (n : Int) (h1 : 0 ≤ n) (h2 : n ≤ 18446744073709551615) : IntKind.u64.wrap n = n := IntWalk.u64_in n ⟨h1, h2⟩
theorem wU32 (n : Int) (h1 : 0 ≤ n) (h2 : n ≤ 4294967295) : IntKind.u32.wrap n = n := IntWalk.u32_in n ⟨h1, h2⟩
theorem wU16 (n : Int) (h1 : 0 ≤ n) (h2 : n ≤ 65535) : IntKind.u16.wrap n = n := IntWalk.u16_in n ⟨h1, h2⟩
theorem wU8 (n : Int) (h1 : 0 ≤ n) (h2 : n ≤ 255) : IntKind.u8.wrap n = n := IntWalk.u8_in n ⟨h1, h2⟩
theorem fdivp (a k : Int) (h : 0 ≤ k) : a.fdiv k = a / k := Int.fdiv_eq_ediv_of_nonneg _ h
theorem ba_append (a b : List UInt8) : (⟨⟨a⟩⟩ : ByteArray) ++ ⟨⟨b⟩⟩ = ⟨⟨a ++ b⟩⟩ := by
  apply ByteArray.ext
  simp
theorem ba_size (a : List UInt8) : (⟨⟨a⟩⟩ : ByteArray).size = a.length := rfl
theorem i64max : IntKind.i64.max = 9223372036854775807 := by decide
/-! ### Calls with data -/
theorem keepF_nil (t : Nat) : keepF [] t = none := by simp [keepF]
/-- A call whose arguments are data (or slices that are no more written to), with a result that is data. -/
theorem call_data {k : FuncId} {args args1 args' : List V} {σ σ1 : List Blk} {v : V} {K : V → List Blk → List Nat → Prop} (h : AC P k args' [] (eqR v)) (hs : frzVs false σ args = some (args1, σ1)) (hle : V.les args1 args') (hv : v.mapT (· + σ.length) = v) (hk : K v (if v.noimm = true then σ else σ1) []) : AC P k args σ K :=
  AC.mono (AC_snap h hs hle) fun r2 σ2 mv hh => by
    obtain ⟨rfl, r, h', mv', ⟨rfl, rfl, rfl⟩, rfl, rfl⟩ := hh
    rw [hv]
    simpa using hk
mutual
theorem V.le_refl : ∀ v : V, V.le v v
  | .s _ => .inl rfl
  | .sl _ _ => .inl rfl
  | .emp => rfl
  | .own _ _ _ => rfl
  | .win _ _ _ _ => rfl
  | .ptr _ _ _ => rfl
  | .mref _ => rfl
  | .iref _ => rfl
  | .undef => rfl
  | .tuple _ => rfl
  | .agg cs => V.les_refl cs
  | .clo _ a b => ⟨rfl, V.les_refl a, V.les_refl b⟩
theorem V.les_refl : ∀ vs : List V, V.les vs vs
  | [] => trivial
  | v :: vs => ⟨V.le_refl v, V.les_refl vs⟩
end
/-- A call whose arguments and result hold nothing that lies in memory. -/
theorem call_plain {k : FuncId} {args : List V} {σ : List Blk} {v : V} {K : V → List Blk → List Nat → Prop} (h : AC P k args [] (eqR v)) (hs : frzVs false σ args = some (args, σ)) (hv : v.mapT (· + σ.length) = v) (hk : K v σ []) : AC P k args σ K :=
  call_data h hs (V.les_refl _) hv (by simpa using hk)
/-! ### Regions that draw their order -/
def tailD (P : Program) (W : List FuncId) (ops : Array Oper) (Q : Ctl → St → Prop) (rest : List Nat) (dst : Option Tmp) (S : St) : V → List Blk → List Nat → Prop := fun v σ' mv => awpD P W ops (Q .normal) rest (S.put dst v σ' mv)
def ExD (P : Program) (k : FuncId) (args : List V) (σ : List Blk) (K : V → List Blk → List Nat → Prop) : Prop := ∃ r, ACq P k args σ r ∧ K r σ []
def ExW (P : Program) (k : FuncId) (args : List V) (σ : List Blk) (K : V → List Blk → List Nat → Prop) : Prop := ∃ r σ', ACe P k args σ r σ' ∧ K r σ' []
def callD (P : Program) (wr : Bool) (args : List V) (σ : List Blk) (K : V → List Blk → List Nat → Prop) : V → Prop
  | .clo (.func k) first caps => if wr = true then ExW P k (first ++ args ++ caps) σ K else ExD P k (first ++ args ++ caps) σ K
  | _ => False
def then3D (K : V → List Blk → List Nat → Prop) : Option (V × List Blk × List Nat) → Prop
  | some (v, σ', mv) => K v σ' mv
  | none => False
theorem then3D_eq (K : V → List Blk → List Nat → Prop) (x : Option (V × List Blk × List Nat)) : (match x with
      | some (v, σ', mv) => K v σ' mv
      | none => False) = then3D K x := by
  cases x with
  | none => rfl
  | some p => rfl
theorem then3D_some (K : V → List Blk → List Nat → Prop) (v : V) (σ' : List Blk) (mv : List Nat) : then3D K (some (v, σ', mv)) = K v σ' mv := rfl
def runD (P : Program) (W : List FuncId) (S : St) (o : Oper) (K : V → List Blk → List Nat → Prop) : Prop :=
  match o.op with
  | .call c => match c.callee with
    | .value f => callD P (calW W f) (c.args.toList.map (evS S.tm)) S.σ K (evS S.tm f)
    | _ => then3D K (aopD P (evS S.tm) S.σ o)
  | _ => then3D K (aopD P (evS S.tm) S.σ o)
def guardE (P : Program) (W : List FuncId) (ops : Array Oper) (Q : Ctl → St → Prop) (rest : List Nat) (S : St) (o : Oper) (want : Bool) : V → Prop
  | .s (.bool b) => (b = want → runD P W S o (tailD P W ops Q rest o.dst S)) ∧ (b ≠ want → awpD P W ops (Q .normal) rest (S.put o.dst (.tuple []) S.σ []))
  | .tuple [] => awpD P W ops (Q .normal) rest (S.put o.dst (.tuple []) S.σ [])
  | _ => False
def stepE (P : Program) (W : List FuncId) (ops : Array Oper) (Q : Ctl → St → Prop) (rest : List Nat) (S : St) : Option Oper → Prop
  | none => awpD P W ops (Q .normal) rest S
  | some o => match o.guard with
    | none => runD P W S o (tailD P W ops Q rest o.dst S)
    | some (j, want) => guardE P W ops Q rest S o want (guardD ops S.tm j)
theorem callD_eq (wr : Bool) (K : V → List Blk → List Nat → Prop) (args : List V) (σ : List Blk) (v : V) : (match v with
      | .clo (.func k) first caps => if wr = true then ∃ r σ', ACe P k (first ++ args ++ caps) σ r σ' ∧ K r σ' [] else ∃ r, ACq P k (first ++ args ++ caps) σ r ∧ K r σ []
      | _ => False) = callD P wr args σ K v := by
  unfold callD
  rfl
theorem runD_stepD {S : St} {o : Oper} {K : St → Prop} : stepD P W o S K = runD P W S o fun v σ' mv => K (S.put o.dst v σ' mv) := by
  unfold stepD runD
  cases hop : o.op with
  | call c =>
    simp only
    cases hc : c.callee with
    | value f => simp only; exact callD_eq _ (fun r σ' mv => K (S.put o.dst r σ' mv)) _ _ _
    | _ => simp only; exact then3D_eq (fun r σ' mv => K (S.put o.dst r σ' mv)) _
  | _ => simp only; exact then3D_eq (fun r σ' mv => K (S.put o.dst r σ' mv)) _
theorem guardE_eq (ops : Array Oper) (Q : Ctl → St → Prop) (rest : List Nat) (S : St) (o : Oper) (want : Bool) (v : V) : (match v with
      | .s (.bool b) => (b = want → stepD P W o S (awpD P W ops (Q .normal) rest)) ∧ (b ≠ want → awpD P W ops (Q .normal) rest (S.put o.dst (.tuple []) S.σ []))
      | .tuple [] => awpD P W ops (Q .normal) rest (S.put o.dst (.tuple []) S.σ [])
      | _ => False) = guardE P W ops Q rest S o want v := by
  unfold guardE
  split
  · rw [runD_stepD]; rfl
  · rfl
  · rfl
theorem awpD_cons (ops : Array Oper) (Q : Ctl → St → Prop) (i : Nat) (rest : List Nat) (S : St) : awpD P W ops (Q .normal) (i :: rest) S = stepE P W ops Q rest S ops[i]? := by
  simp only [awpD, stepE]
  cases ho : ops[i]? with
  | none => rfl
  | some o =>
    simp only
    cases hg : o.guard with
    | none => simp only; rw [runD_stepD]; rfl
    | some jw =>
      obtain ⟨j, want⟩ := jw
      simp only
      unfold guardD
      cases hd : (ops[j]?).bind (·.dst) with
      | none => simp only; unfold guardE; rfl
      | some d => simp only; exact guardE_eq ..
theorem awpD_nil (ops : Array Oper) (K : St → Prop) (S : St) : awpD P W ops K [] S = K S := rfl
theorem awp_drawW (W : List FuncId) {i : Nat} {ops : Array Oper} {Q : Ctl → St → Prop} {S : St} (hW : drawOK W (List.range ops.size) [] ops = true) (h : awpD P W ops (Q .normal) (List.range ops.size) S) : awp P (.region i ops true) Q S := .inl ⟨W, _, _, hW, h⟩
theorem awp_drawO (W : List FuncId) (ord anc : List Nat) {i : Nat} {ops : Array Oper} {Q : Ctl → St → Prop} {S : St} (hW : drawOK W ord anc ops = true) (h : awpD P W ops (Q .normal) ord S) : awp P (.region i ops true) Q S := .inl ⟨W, ord, anc, hW, h⟩
theorem awp_drawT (W : List FuncId) (A : List Nat) (x y : Nat) (B1 B2 anc1 anc2 : List Nat) {i : Nat} {ops : Array Oper} {Q : Ctl → St → Prop} {S : St} (hW : drawT W A x y B1 B2 anc1 anc2 ops = true) (h : awpD P W ops (twoQ P W ops x y B1 B2 Q .normal) A S) : awp P (.region i ops true) Q S := .inr (.inl ⟨W, A, x, y, B1, B2, anc1, anc2, hW, h⟩)
theorem awp_drawB (K : St → Prop) {i : Nat} {ops : Array Oper} {Q : Ctl → St → Prop} {S : St} (hd : DrawnBy P ops S K) (h : ∀ S', K S' → Q .normal S') : awp P (.region i ops true) Q S := .inr (.inr ⟨K, hd, h⟩)
theorem tailD_eq (ops : Array Oper) (Q : Ctl → St → Prop) (rest : List Nat) (dst : Option Tmp) (S : St) (v : V) (σ' : List Blk) (mv : List Nat) : tailD P W ops Q rest dst S v σ' mv = awpD P W ops (Q .normal) rest (S.put dst v σ' mv) := rfl
theorem guardE_split {ops : Array Oper} {Q : Ctl → St → Prop} {rest : List Nat} {S : St} {o : Oper} {want t : Bool} (h1 : t = true → guardE P W ops Q rest S o want (.s (.bool t))) (h2 : t = false → guardE P W ops Q rest S o want (.s (.bool t))) : guardE P W ops Q rest S o want (.s (.bool t)) := by
  cases t with
  | true => exact h1 rfl
  | false => exact h2 rfl
theorem guardE_un (ops : Array Oper) (Q : Ctl → St → Prop) (rest : List Nat) (S : St) (o : Oper) (want : Bool) : guardE P W ops Q rest S o want (.tuple []) = awpD P W ops (Q .normal) rest (S.put o.dst (.tuple []) S.σ []) := by simp [guardE]
theorem guardE_tt (ops : Array Oper) (Q : Ctl → St → Prop) (rest : List Nat) (S : St) (o : Oper) : guardE P W ops Q rest S o true (.s (.bool true)) = runD P W S o (tailD P W ops Q rest o.dst S) := by simp [guardE]
theorem guardE_ff (ops : Array Oper) (Q : Ctl → St → Prop) (rest : List Nat) (S : St) (o : Oper) : guardE P W ops Q rest S o false (.s (.bool false)) = runD P W S o (tailD P W ops Q rest o.dst S) := by simp [guardE]
theorem guardE_tf (ops : Array Oper) (Q : Ctl → St → Prop) (rest : List Nat) (S : St) (o : Oper) : guardE P W ops Q rest S o true (.s (.bool false)) = awpD P W ops (Q .normal) rest (S.put o.dst (.tuple []) S.σ []) := by simp [guardE]
theorem guardE_ft (ops : Array Oper) (Q : Ctl → St → Prop) (rest : List Nat) (S : St) (o : Oper) : guardE P W ops Q rest S o false (.s (.bool true)) = awpD P W ops (Q .normal) rest (S.put o.dst (.tuple []) S.σ []) := by simp [guardE]
theorem frz1_app {σ τ σ1 : List Blk} {v : V} {t : T} (h : frz1 σ v = some (t, σ1)) : frz1 (σ ++ τ) v = some (t, σ1 ++ τ) := by
  cases v with
  | own tag off len =>
    simp only [frz1] at h ⊢
    split at h
    · rename_i z xs ro hb
      rw [get_app hb]
      split at h
      · rename_i hle
        simp only [Option.some.injEq, Prod.mk.injEq] at h
        obtain ⟨rfl, rfl⟩ := h
        simp only [hle, if_true]
        rw [List.set_append_left _ _ (List.getElem?_eq_some_iff.1 hb).1]
      · simp at h
    · simp at h
  | _ => simp [frz1] at h ⊢ <;> (obtain ⟨rfl, rfl⟩ := h; simp)
theorem frz_app {τ : List Blk} : ∀ {vs : List V} {σ σ1 : List Blk} {ts : List T}, frz σ vs = some (ts, σ1) → frz (σ ++ τ) vs = some (ts, σ1 ++ τ)
  | [], σ, σ1, ts, h => by simp [frz] at h ⊢; obtain ⟨rfl, rfl⟩ := h; simp
  | v :: vs, σ, σ1, ts, h => by
    simp only [frz] at h ⊢
    split at h
    · rename_i t σ2 h1
      rw [frz1_app h1]
      split at h
      · rename_i ts' σ3 h2
        simp at h
        obtain ⟨rfl, rfl⟩ := h
        simp [frz_app h2]
      · simp at h
    · simp at h
theorem frzBox_app {σ τ σ1 : List Blk} {t off n : Nat} {ts : List T} (h : frzBox σ t off n = some (ts, σ1)) : frzBox (σ ++ τ) t off n = some (ts, σ1 ++ τ) := by
  unfold frzBox at h ⊢
  split at h
  · rename_i cells ro hb
    rw [get_app hb]
    split at h
    · rename_i hle
      simp only [hle, if_true]
      split at h
      · rename_i ts' σ2 h2
        rw [frz_app h2]
        split at h
        · rename_i cells1 ro1 hb1
          simp only
          rw [get_app hb1]
          simp at h
          obtain ⟨rfl, rfl⟩ := h
          simp only [Option.some.injEq, Prod.mk.injEq, true_and]
          rw [List.set_append_left _ _ (List.getElem?_eq_some_iff.1 hb1).1]
        · simp at h
      · simp at h
    · simp at h
  · simp at h
mutual
theorem frzV_app {τ : List Blk} : ∀ (v : V) {c : Bool} {σ σ1 : List Blk} {v' : V}, frzV c σ v = some (v', σ1) → frzV c (σ ++ τ) v = some (v', σ1 ++ τ)
  | .s _, c, σ, σ1, v', h => by simp [frzV] at h ⊢; obtain ⟨rfl, rfl⟩ := h; simp
  | .sl _ _, c, σ, σ1, v', h => by simp [frzV] at h ⊢; obtain ⟨rfl, rfl⟩ := h; simp
  | .iref _, c, σ, σ1, v', h => by simp [frzV] at h ⊢; obtain ⟨rfl, rfl⟩ := h; simp
  | .undef, c, σ, σ1, v', h => by simp [frzV] at h ⊢; obtain ⟨rfl, rfl⟩ := h; simp
  | .emp, c, σ, σ1, v', h => by simp [frzV] at h ⊢; obtain ⟨rfl, rfl⟩ := h; simp
  | .mref _, c, σ, σ1, v', h => by simp [frzV] at h
  | .own t off len, c, σ, σ1, v', h => by
    simp only [frzV] at h ⊢
    split at h
    · rename_i z rows σ2 h1
      rw [frz1_app h1]
      simp at h
      obtain ⟨rfl, rfl⟩ := h
      rfl
    · simp at h
  | .win t off len z, c, σ, σ1, v', h => by
    simp only [frzV] at h ⊢
    split at h
    · rename_i ts σ2 h1
      rw [frzBox_app h1]
      simp at h
      obtain ⟨rfl, rfl⟩ := h
      rfl
    · simp at h
  | .ptr t i o, c, σ, σ1, v', h => by
    simp only [frzV] at h ⊢
    split at h
    · rename_i hc
      rw [if_pos hc]
      have hbl : boxLen (σ ++ τ) t = boxLen σ t ∨ (∀ n, frzBox σ t o n = none) := by
        unfold boxLen
        cases hb : σ[t]? with
        | none => right; intro n; simp [frzBox, hb]
        | some k => left; rw [get_app hb]
      rcases hbl with hbl | hbl
      · rw [hbl]
        split at h
        · rename_i ts σ2 h1
          rw [frzBox_app h1]
          simp at h
          obtain ⟨rfl, rfl⟩ := h
          rfl
        · simp at h
      · rw [hbl] at h
        simp at h
    · simp at h
  | .clo fn a b, c, σ, σ1, v', h => by
    simp only [frzV] at h ⊢
    split at h
    · rename_i a' σ2 h1
      rw [frzVs_app a h1]
      split at h
      · rename_i b' σ3 h2
        rw [frzVs_app b h2]
        simp at h
        obtain ⟨rfl, rfl⟩ := h
        rfl
      · simp at h
    · simp at h
  | .agg cs, c, σ, σ1, v', h => by
    simp only [frzV] at h ⊢
    split at h
    · rename_i a' σ2 h1
      rw [frzVs_app cs h1]
      simp at h
      obtain ⟨rfl, rfl⟩ := h
      rfl
    · simp at h
  | .tuple cs, c, σ, σ1, v', h => by
    simp only [frzV] at h ⊢
    split at h
    · rename_i a' σ2 h1
      rw [frzVs_app cs h1]
      simp at h
      obtain ⟨rfl, rfl⟩ := h
      rfl
    · simp at h
theorem frzVs_app {τ : List Blk} : ∀ (vs : List V) {c : Bool} {σ σ1 : List Blk} {vs' : List V}, frzVs c σ vs = some (vs', σ1) → frzVs c (σ ++ τ) vs = some (vs', σ1 ++ τ)
  | [], c, σ, σ1, vs', h => by simp [frzVs] at h ⊢; obtain ⟨rfl, rfl⟩ := h; simp
  | v :: vs, c, σ, σ1, vs', h => by
    simp only [frzVs] at h ⊢
    split at h
    · rename_i v1 σ2 h1
      rw [frzV_app v h1]
      split at h
      · rename_i vs1 σ3 h2
        simp only
        rw [frzVs_app vs h2]
        simp at h
        obtain ⟨rfl, rfl⟩ := h
        rfl
      · simp at h
    · simp at h
end
theorem draw_data {k : FuncId} {args args1 args' : List V} {σ σ1 : List Blk} {v : V} {K : V → List Blk → List Nat → Prop} (h : AC P k args' [] (eqR v)) (hs : frzVs false σ args = some (args1, σ1)) (hle : V.les args1 args') (hv : ∀ n, v.mapT (· + n) = v) (hq : v.noimm = true ∨ σ1 = σ) (hk : K v σ []) : ExD P k args σ K :=
  ⟨v, fun τ => AC.mono (AC_snap h (frzVs_app args hs) hle) fun r2 σ2 mv hh => by
    obtain ⟨rfl, r, h', mv', ⟨rfl, rfl, rfl⟩, rfl, rfl⟩ := hh
    rw [hv]
    refine ⟨rfl, ?_, rfl⟩
    rcases hq with hq | hq
    · simp [hq]
    · subst hq; simp, hk⟩
theorem draw_plain {k : FuncId} {args : List V} {σ : List Blk} {v : V} {K : V → List Blk → List Nat → Prop} (h : AC P k args [] (eqR v)) (hs : frzVs false σ args = some (args, σ)) (hv : ∀ n, v.mapT (· + n) = v) (hk : K v σ []) : ExD P k args σ K :=
  draw_data h hs (V.les_refl _) hv (.inr rfl) hk
end
end Go.Ai
