/- A part of an interpreter of the language over data, and the proof that what it answers is what the machine does; no condition. -/
import Derived.Test.YtbiolkmddpkheaaGreatAiY
set_option linter.unusedVariables false
set_option linter.unusedSimpArgs false
namespace Go.Ai

/-! ## A slice that grows while others look elsewhere -/

/-- An operation that lays an empty slice, or grows one. -/
def chainO (p : Option Tmp) (o : Oper) : Bool :=
  o.guard.isNone && o.dst.isSome && match p, o.op with
  | none, .buildSlice _ _ parts => parts.toList.isEmpty
  | some t, .call c => (match c.callee with | .builtin .append => true | _ => false) && (match c.args.toList with | [.tmp t', _] => t' == t | _ => false) && (match c.argTypes.toList with | [_, _] => true | _ => false)
  | _, _ => false
/-- Each grows what the one before it gave. -/
def chainOK (ops : Array Oper) : Option Tmp → List Nat → Bool
  | _, [] => true
  | p, c :: C => (match ops[c]? with
    | some o => chainO p o && chainOK ops o.dst C
    | none => false)

/-- What is laid over the temporaries by a chain. -/
def tmc (tm : Nat → V) : List (Nat × V) → Nat → V
  | [] => tm
  | (d, v) :: T => upd (tmc tm T) d v

theorem tmc_not {tm : Nat → V} : ∀ {T : List (Nat × V)} {i : Nat}, (∀ q ∈ T, q.1 ≠ i) → tmc tm T i = tm i
  | [], i, _ => rfl
  | (d, v) :: T, i, h => by
    simp only [tmc, upd]
    rw [if_neg (fun e => h (d, v) (by simp) e.symm), tmc_not fun q hq => h q (by simp [hq])]
theorem tmc_congr {tm tm' : Nat → V} {i : Nat} (h : tm i = tm' i) : ∀ {T : List (Nat × V)}, tmc tm T i = tmc tm' T i
  | [] => h
  | (d, v) :: T => by
    simp only [tmc, upd]
    rw [tmc_congr h]
theorem tmc_upd {tm : Nat → V} {d : Nat} {v : V} : ∀ {T : List (Nat × V)}, (∀ q ∈ T, q.1 ≠ d) → upd (tmc tm T) d v = tmc (upd tm d v) T
  | [], _ => rfl
  | (e, u) :: T, h => by
    have hne := h (e, u) (by simp)
    simp only [tmc]
    rw [← tmc_upd fun q hq => h q (by simp [hq])]
    funext i
    simp only [upd]
    by_cases h1 : i = d
    · subst h1
      rw [if_pos rfl, if_neg (Ne.symm hne), if_pos rfl]
    · rw [if_neg h1]
      by_cases h2 : i = e
      · rw [if_pos h2, if_pos h2]
      · rw [if_neg h2, if_neg h2, if_neg h1]
theorem tmc_pz {tm : Nat → V} {k : Nat} (h : ∀ i, (tm i).pz [k] = tm i) : ∀ {T : List (Nat × V)}, (fun i => (tmc tm T i).pz [k]) = tmc tm (T.map fun q => (q.1, q.2.pz [k]))
  | [] => funext h
  | (d, v) :: T => by
    have := tmc_pz h (T := T)
    simp only [List.map_cons, tmc]
    rw [← this]
    funext i
    simp only [upd]
    split <;> rfl

section
variable {P : Program} {W : List FuncId}

def CRuns (P : Program) (ops : Array Oper) : List Nat → St → St → Prop
  | [], S, S' => S' = S
  | c :: C, S, S' => ∃ o v σ' mv, ops[c]? = some o ∧ aop P (evS S.tm) S.σ o = some (v, σ', mv) ∧ CRuns P ops C (S.put o.dst v σ' mv) S'

theorem chain_step {p : Option Tmp} {o : Oper} (h : chainO p o = true) {S : St} {K : St → Prop} (k : stepO P o S K) : ∃ v σ' mv, aop P (evS S.tm) S.σ o = some (v, σ', mv) ∧ K (S.put o.dst v σ' mv) := by
  unfold chainO at h
  simp only [Bool.and_eq_true] at h
  obtain ⟨_, h⟩ := h
  unfold stepO at k
  split at h
  · rename_i hop
    simp only [hop] at k
    split at k
    · rename_i v σ' mv h1; exact ⟨v, σ', mv, h1, k⟩
    · simp [stepX, amap, hop, stepY] at k
  · rename_i c hop
    simp only [Bool.and_eq_true] at h
    split at h
    · rename_i hcal
      simp only [hop, hcal] at k
      split at k
      · rename_i v σ' mv h1; exact ⟨v, σ', mv, h1, k⟩
      · simp [stepX, amap, hop, hcal, stepY] at k
    · simp at h
  · simp at h

theorem awpC_runs {ops : Array Oper} {K : St → Prop} : ∀ {p : Option Tmp} {C : List Nat} {S : St}, chainOK ops p C = true → awpOps P ops K C S → ∃ S', CRuns P ops C S S' ∧ K S'
  | _, [], S, _, h => ⟨S, rfl, h⟩
  | p, c :: C, S, hc, h => by
    simp only [chainOK] at hc
    split at hc
    · rename_i o ho
      simp only [Bool.and_eq_true] at hc
      obtain ⟨hc1, hc2⟩ := hc
      have hg : o.guard = none := by
        have := hc1
        simp only [chainO, Bool.and_eq_true, Option.isNone_iff_eq_none] at this
        exact this.1.1
      simp only [awpOps, ho, hg] at h
      obtain ⟨v, σ', mv, h1, h2⟩ := chain_step hc1 h
      obtain ⟨S', h3, h4⟩ := awpC_runs hc2 h2
      exact ⟨S', ⟨o, v, σ', mv, ho, h1, h3⟩, h4⟩
    · simp at hc

/-- Where a chain stands: nothing laid, or one block. -/
def ChS (k : Nat) : Option Tmp → List (Nat × V) → List Blk → Prop
  | none, T, τ => T = [] ∧ τ = []
  | some t, T, τ => ∃ v T' b, T = (t, v) :: T' ∧ τ = [b] ∧ ((∃ len, v = .own k 0 len) ∨ ∃ len z, v = .win k 0 len z)

theorem chain_shape {k : Nat} {p : Option Tmp} {o : Oper} (h : chainO p o = true) {tm : Nat → V} {σ0 τ : List Blk} {T : List (Nat × V)} (hk : σ0.length = k) (hσ : σ0.map (Blk.pz [k]) = σ0) (hs : ChS k p T τ) {v : V} {σ' : List Blk} {mv : List Nat}
    (ha : aop P (evS (tmc tm T)) (σ0 ++ τ) o = some (v, σ', mv)) : (∃ b, σ' = σ0 ++ [b]) ∧ ((∃ len, v = .own k 0 len) ∨ ∃ len z, v = .win k 0 len z) ∧ (mv = [] ∧ T = [] ∨ mv = [k]) := by
  unfold chainO at h
  simp only [Bool.and_eq_true] at h
  obtain ⟨_, h⟩ := h
  split at h
  · rename_i t n parts hop
    obtain ⟨rfl, rfl⟩ := hs
    have hp : parts.toList = [] := by simpa using h
    simp only [aop, hop, hp, List.map_nil, Option.map_eq_some_iff, Prod.mk.injEq] at ha
    obtain ⟨⟨v1, s1⟩, ha, rfl, rfl, rfl⟩ := ha
    unfold abuildSlice at ha
    split at ha
    · split at ha
      · simp at ha
      · split at ha
        · rename_i zc hz
          split at ha
          · rename_i xs s2 hx
            simp only [Option.some.injEq, Prod.mk.injEq] at ha
            obtain ⟨rfl, rfl⟩ := ha
            have e : s2 = σ0 := by
              simp only [Option.bind_eq_some_iff, arowsFill, Option.some.injEq, Prod.mk.injEq, List.append_nil] at hx
              obtain ⟨_, _, _, e⟩ := hx
              exact e.symm
            subst e
            exact ⟨⟨_, rfl⟩, .inl ⟨n, by rw [hk]⟩, .inl ⟨rfl, rfl⟩⟩
          · split at ha
            · simp only [Option.some.injEq, Prod.mk.injEq, List.append_nil] at ha
              obtain ⟨rfl, rfl⟩ := ha
              exact ⟨⟨_, rfl⟩, .inr ⟨n, _, by rw [hk]⟩, .inl ⟨rfl, rfl⟩⟩
            · simp at ha
        · simp at ha
    · simp at ha
  · rename_i t c hop
    simp only [Bool.and_eq_true] at h
    obtain ⟨⟨h1, h2⟩, h3⟩ := h
    obtain ⟨v0, T', b0, rfl, rfl, hv0⟩ := hs
    split at h1
    · rename_i hcal
      split at h2
      · rename_i t' x hargs
        simp only [beq_iff_eq] at h2
        subst h2
        split at h3
        · rename_i ty u hty
          simp only [aop, hop, hcal, abuiltin, hty, hargs, List.map_cons, List.map_nil, evS, tmc, upd, if_true, Option.map_eq_some_iff, Prod.mk.injEq] at ha
          obtain ⟨⟨v1, s1, m1⟩, ha, rfl, rfl, rfl⟩ := ha
          unfold aappend at ha
          split at ha
          · split at ha
            · simp at ha
            · split at ha
              · simp at ha
              · rename_i zy ys hr
                split at ha
                · simp at ha
                · rcases hv0 with ⟨len, rfl⟩ | ⟨len, z, rfl⟩
                  · simp only at ha
                    have hg : (σ0 ++ [b0])[k]? = some b0 := by
                      rw [List.getElem?_append_right (by omega)]
                      simp [hk]
                    rw [hg] at ha
                    split at ha
                    · rename_i z xs ro hb
                      simp only [Option.some.injEq] at hb
                      split at ha
                      · simp only [Option.some.injEq, Prod.mk.injEq] at ha
                        obtain ⟨rfl, rfl, rfl⟩ := ha
                        refine ⟨⟨.rows z (xs ++ ys) ro, ?_⟩, .inl ⟨_, rfl⟩, .inr rfl⟩
                        have : (σ0 ++ [b0]).set k (.rows z (xs ++ ys) ro) = σ0 ++ [.rows z (xs ++ ys) ro] := by
                          rw [List.set_append_right _ _ (by omega)]
                          simp [hk]
                        rw [this, List.map_append, hσ]
                        rfl
                      · simp at ha
                    · simp at ha
                  · simp at ha
          · simp at ha
        · simp at h3
      · simp at h2
    · simp at h1
  · simp at h

def dstOf (ops : Array Oper) (x : Nat) : Option Tmp := match ops[x]? with
  | some o => o.dst
  | none => none
/-- May the operations be told so: those that look, then the chain, then what comes behind all of them? -/
def drawC (W : List FuncId) (L1 C L2 anc : List Nat) (ops : Array Oper) : Bool :=
  drawX (fun j i => (L1 ++ C).contains j && (C ++ L2).contains i) W (L1 ++ (C ++ L2)) anc ops &&
  chainOK ops none C &&
  (L1.all fun x => match ops[x]? with
    | some o => decide (opCls W o ≤ 1) && (C.all fun c => match ops[c]? with
      | some q => (match q.dst with | some d => !(o.looksAt ops).contains d && o.dst != some d | none => false) &&
          (Nat.testBit (anc.getD c 0) x || (match o.dst with | some d => !(q.looksAt ops).contains d | none => true))
      | none => false)
    | none => false) &&
  decide (L1.filterMap (dstOf ops)).Nodup &&
  decide (C.Pairwise fun a b => Nat.testBit (anc.getD b 0) a = true) &&
  (L2.all fun l => (L1 ++ C).all fun y => Nat.testBit (anc.getD l 0) y)

/-- No value refers to the block that is laid next. -/
def Clear (S : St) : Prop := (∀ i, (S.tm i).pz [S.σ.length] = S.tm i) ∧ S.σ.map (Blk.pz [S.σ.length]) = S.σ

theorem Runs_reads {ops : Array Oper} : ∀ {l : List Nat} {S S' : St}, (∀ x ∈ l, ∃ o, ops[x]? = some o ∧ opCls W o ≤ 1) → Runs P W ops l S S' → S'.σ = S.σ ∧ S'.mv = S.mv ∧
    (∀ i, (∀ x ∈ l, ∀ o, ops[x]? = some o → o.dst ≠ some i) → S'.tm i = S.tm i)
  | [], S, S', _, h => by simp only [Runs] at h; subst h; exact ⟨rfl, rfl, fun _ _ => rfl⟩
  | x :: l, S, S', hc, h => by
    obtain ⟨S1, h1, h2⟩ := h
    obtain ⟨o, ho, hcl⟩ := hc x (by simp)
    obtain ⟨e1, e2, e3⟩ := Runs_reads (fun y hy => hc y (by simp [hy])) h2
    simp only [One, ho] at h1
    obtain ⟨v, σ', mv, he, rfl⟩ := h1
    obtain ⟨rfl, rfl, _⟩ := he.clsx hcl
    refine ⟨?_, ?_, fun i hi => ?_⟩
    · rw [e1]; cases o.dst <;> rfl
    · rw [e2]; cases o.dst <;> simp [St.put]
    · rw [e3 i fun y hy => hi y (by simp [hy])]
      exact put_tm fun d hd e => hi x (by simp) o ho (by rw [hd, e])


theorem listed_of {listed : Array Bool} {i : Nat} (hi : i < listed.size) (h : listed.getD i true ≠ false) : listed.getD i false = true := by
  rw [Array.getD_eq_getD_getElem?, Array.getElem?_eq_getElem hi] at h ⊢
  simpa using h

theorem reads_of {W : List FuncId} {L1 C : List Nat} {anc : List Nat} {ops : Array Oper} (hB : (L1.all fun x => match ops[x]? with
    | some o => decide (opCls W o ≤ 1) && (C.all fun c => match ops[c]? with
      | some q => (match q.dst with | some d => !(o.looksAt ops).contains d && o.dst != some d | none => false) &&
          (Nat.testBit (anc.getD c 0) x || (match o.dst with | some d => !(q.looksAt ops).contains d | none => true))
      | none => false)
    | none => false) = true) : ∀ x ∈ L1, ∃ o, ops[x]? = some o ∧ opCls W o ≤ 1 ∧ ∀ c ∈ C, ∀ q, ops[c]? = some q → (∀ d, q.dst = some d → d ∉ o.looksAt ops ∧ o.dst ≠ some d) ∧
      (Nat.testBit (anc.getD c 0) x = true ∨ ∀ d, o.dst = some d → d ∉ q.looksAt ops) := by
  intro x hx
  have h1 := List.all_eq_true.1 hB x hx
  split at h1
  · rename_i o ho
    simp only [Bool.and_eq_true, decide_eq_true_eq] at h1
    refine ⟨o, ho, h1.1, fun c hc q hq => ?_⟩
    have h2 := List.all_eq_true.1 h1.2 c hc
    simp only [hq, Bool.and_eq_true, Bool.or_eq_true] at h2
    refine ⟨fun d hd => ?_, h2.2.imp id fun h3 d hd => ?_⟩
    · have h3 := h2.1
      simp only [hd, Bool.and_eq_true, Bool.not_eq_true', bne_iff_ne, ne_eq] at h3
      exact ⟨fun hm => by rw [List.contains_iff_mem.2 hm] at h3; simp at h3, h3.2⟩
    · simp only [hd, Bool.not_eq_true'] at h3
      exact fun hm => by rw [List.contains_iff_mem.2 hm] at h3; simp at h3
  · simp at h1

theorem dst_inj {ops : Array Oper} : ∀ {L : List Nat}, (L.filterMap (dstOf ops)).Nodup → ∀ {x y d : Nat}, x ∈ L → y ∈ L → dstOf ops x = some d → dstOf ops y = some d → x = y
  | [], _, _, _, _, hx, _, _, _ => by simp at hx
  | z :: L, hn, x, y, d, hx, hy, h1, h2 => by
    have mem : ∀ {u : Nat}, u ∈ L → dstOf ops u = some d → d ∈ L.filterMap (dstOf ops) := fun {u} hu h => List.mem_filterMap.2 ⟨u, hu, h⟩
    have hL : (L.filterMap (dstOf ops)).Nodup := by
      cases hz : dstOf ops z with
      | none => rw [List.filterMap_cons_none hz] at hn; exact hn
      | some e => rw [List.filterMap_cons_some hz] at hn; exact (List.nodup_cons.1 hn).2
    have hz : dstOf ops z = some d → d ∉ L.filterMap (dstOf ops) := fun h => by
      rw [List.filterMap_cons_some h] at hn
      exact (List.nodup_cons.1 hn).1
    rcases List.mem_cons.1 hx with ex | hx
    · rcases List.mem_cons.1 hy with ey | hy
      · rw [ex, ey]
      · exact absurd (mem hy h2) (hz (ex ▸ h1))
    · rcases List.mem_cons.1 hy with ey | hy
      · exact absurd (mem hx h1) (hz (ey ▸ h2))
      · exact dst_inj hL hx hy h1 h2

theorem runs_chain {N : Nat} {B : Base} {ops : Array Oper} {L1 C L2 anc : List Nat} {K : St → Prop} {Q : Exit → Act → World → Prop} (hok : opsOK N ops = true) (hdr : drawC W L1 C L2 anc ops = true) (hq : ∀ S a w, Rel N B S a w → K S → Q .normal a w)
    {k : Nat} {tm1 : Nat → V} {σ0 : List Blk} {mv0 : List Nat} {S2 S' : St} (hK : K S') (hk : σ0.length = k) (hσ : σ0.map (Blk.pz [k]) = σ0) (htm1 : ∀ i, (tm1 i).pz [k] = tm1 i) (hL2 : Runs P W ops L2 S2 S') :
    ∀ (fuel : Nat) (listed : Array Bool) (p : Option Tmp) (T : List (Nat × V)) (τ : List Blk) (M : List Nat) (tmr : Nat → V) (a : Act) (w : World), listed.size = ops.size → (∀ l ∈ L2, listed.getD l true = false) →
      (∀ i o, listed.getD i false = true → ops[i]? = some o → ∀ e ∈ o.after, Region.binds .any e = true → listed.getD e.on false = true) → chainOK ops p (C.filter fun i => !listed.getD i true) = true → ChS k p T τ →
      CRuns P ops (C.filter fun i => !listed.getD i true) ⟨tmc tm1 T, σ0 ++ τ, mv0 ++ M⟩ S2 → (∀ i, (tmr i).pz [k] = tmr i) → Runs P W ops (L1.filter fun i => !listed.getD i true) ⟨tmr, σ0, mv0⟩ ⟨tm1, σ0, mv0⟩ →
      (∀ q ∈ T, ∃ c ∈ C, ∃ o, ops[c]? = some o ∧ o.dst = some q.1) → ((L1 ++ (C ++ L2)).filter (fun i => !listed.getD i true)).length ≤ fuel → Rel N B ⟨tmc tmr T, σ0 ++ τ, mv0 ++ M⟩ a w → wpAny P .any ops Q fuel listed a w := by
  simp only [drawC, Bool.and_eq_true, decide_eq_true_eq] at hdr
  obtain ⟨⟨⟨⟨⟨hd, hch⟩, hB⟩, hnd1⟩, hCp⟩, hL⟩ := hdr
  have hrd := reads_of hB
  have hmem := drawX_mem hd
  have hnd := drawX_nodup hd
  have hancOK : ancOK anc ops = true := by
    have h := hd
    simp only [drawX, Bool.and_eq_true] at h
    exact h.2
  have hback := drawX_back hd
  obtain ⟨hndL1, hndCL, hdis1⟩ := List.nodup_append.1 hnd
  obtain ⟨hndC, hndL2, hdis2⟩ := List.nodup_append.1 hndCL
  intro fuel
  induction fuel with
  | zero =>
    intro listed p T τ M tmr a w hs hu2 hcl hco hch2 hcr htr hr hkT hf hR
    have hall : ∀ i ∈ L1 ++ (C ++ L2), listed.getD i true ≠ false := by
      intro i hi e
      have : i ∈ (L1 ++ (C ++ L2)).filter (fun i => !listed.getD i true) := by
        simp only [List.mem_filter]
        exact ⟨hi, by rw [e]; rfl⟩
      have h0 := List.eq_nil_of_length_eq_zero (Nat.le_zero.1 hf)
      rw [h0] at this
      simp at this
    have fil : ∀ {l : List Nat}, (∀ i ∈ l, i ∈ L1 ++ (C ++ L2)) → l.filter (fun i => !listed.getD i true) = [] := fun {l} hl => List.filter_eq_nil_iff.2 fun i hi => by
      have := hall i (hl i hi)
      simpa using this
    rw [fil (fun i hi => by simp [hi])] at hcr hr
    simp only [CRuns] at hcr
    simp only [Runs] at hr
    obtain ⟨rfl, _, _⟩ : tm1 = tmr ∧ σ0 = σ0 ∧ mv0 = mv0 := by injection hr with a b c; exact ⟨a, rfl, rfl⟩
    subst hcr
    have hL2n : L2 = [] := by
      cases hL2e : L2 with
      | nil => rfl
      | cons l r => exact absurd (hu2 l (by rw [hL2e]; simp)) (hall l (by rw [hL2e]; simp))
    subst hL2n
    simp only [Runs] at hL2
    subst hL2
    refine ⟨?_, hq _ _ _ hR hK⟩
    cases hrd : Region.ready .any ops listed with
    | nil => rfl
    | cons i r =>
      obtain ⟨h0, o, ho, _⟩ := mem_ready.1 (show i ∈ Region.ready .any ops listed by rw [hrd]; simp)
      exact absurd h0 (hall i ((hmem i).1 (Array.getElem?_eq_some_iff.1 ho).1))
  | succ fuel ih =>
    intro listed p T τ M tmr a w hs hu2 hcl hco hch2 hcr htr hr hkT hf hR
    by_cases hdone : (L1 ++ C).filter (fun i => !listed.getD i true) = []
    · -- all of them are done
      have hall : ∀ i ∈ L1 ++ C, listed.getD i false = true := by
        intro i hi
        have := List.filter_eq_nil_iff.1 hdone i hi
        refine listed_of (by rw [hs]; exact (hmem i).2 (by rw [← List.append_assoc]; exact List.mem_append_left _ hi)) fun e => ?_
        rw [e] at this
        simp at this
      rw [List.filter_append, List.append_eq_nil_iff] at hdone
      rw [hdone.2] at hcr
      rw [hdone.1] at hr
      simp only [CRuns] at hcr
      simp only [Runs] at hr
      obtain ⟨rfl, _, _⟩ : tm1 = tmr ∧ σ0 = σ0 ∧ mv0 = mv0 := by injection hr with a b c; exact ⟨a, rfl, rfl⟩
      subst hcr
      have e2 : L2.filter (fun i => !listed.getD i true) = L2 := List.filter_eq_self.2 fun i hi => by simp [hu2 i hi]
      have e3 : (L1 ++ (C ++ L2)).filter (fun i => !listed.getD i true) = L2 := by
        rw [List.filter_append, List.filter_append, hdone.1, hdone.2, e2]
        rfl
      refine runs_any hok hd hq hK (fuel + 1) listed _ a w hs hcl (fun j i hji => ?_) hf hR (by rw [e3]; exact hL2)
      simp only [Bool.and_eq_true, List.contains_iff_mem] at hji
      exact hall j hji.1
    refine ⟨fun hrd0 => ?_, fun i hi => ?_⟩
    · exfalso
      refine hdone (List.filter_eq_nil_iff.2 fun i hi => ?_)
      have := none_left hd hs hrd0 i ((hmem i).2 (by rw [← List.append_assoc]; exact List.mem_append_left _ hi))
      simp [this]
    · obtain ⟨h0, o, ho, hafter⟩ := mem_ready.1 hi
      have hisz : i < ops.size := (Array.getElem?_eq_some_iff.1 ho).1
      have him := (hmem i).1 hisz
      have hisub : i ∈ (L1 ++ (C ++ L2)).filter (fun i => !listed.getD i true) := by
        simp only [List.mem_filter]
        exact ⟨him, by rw [h0]; rfl⟩
      have hdi : ∀ d, o.dst = some d → d < N := by
        intro d hd
        have hm : o ∈ ops := Array.mem_of_getElem? ho
        have := (Array.all_eq_true_iff_forall_mem.1 hok) o hm
        simpa [hd] using this
      have set_ne : ∀ {l : List Nat}, (∀ j ∈ l, j ≠ i) → l.filter (fun j => !(listed.setIfInBounds i true).getD j true) = l.filter (fun j => !listed.getD j true) := by
        intro l hl
        apply List.filter_congr
        intro j hj
        rw [getD_set_ne true (Ne.symm (hl j hj))]
      have hf' := Nat.le_of_lt_succ (Nat.lt_of_lt_of_le (left_less hisub hs hisz) hf)
      rcases List.mem_append.1 him with hiL | hiCL
      · -- one that looks
        obtain ⟨pre, suf, hps⟩ := List.append_of_mem hiL
        have hr' := hr
        rw [hps] at hr'
        have hp := pull_left hd (suf := suf) (more := C ++ L2) (by rw [hps]; simp) hs hcl hi (fun b hb => by
          simp only [Bool.and_eq_true, List.contains_iff_mem] at hb
          exact absurd rfl (hdis1 i hiL i hb.2)) hr'
        rw [← hps] at hp
        obtain ⟨Sx, h1, h2⟩ := hp
        obtain ⟨o', ho', hcls, hC⟩ := hrd i hiL
        rw [ho] at ho'
        cases ho'
        simp only [One, ho] at h1
        obtain ⟨v, σ', mv, he, rfl⟩ := h1
        obtain ⟨hs1, hs2, hfr⟩ := he.clsx hcls
        have hs1' := hs1.symm
        have hs2' := hs2.symm
        subst hs1' hs2'
        have hkey : ∀ t ∈ o.looksAt ops, tmr t = tmc tmr T t := fun t ht => (tmc_not fun q hq e => by
          obtain ⟨c, hc, oc, hoc, hdc⟩ := hkT q hq
          exact ((hC c hc oc hoc).1 q.1 hdc).1 (e ▸ ht)).symm
        have hone : One P W ops i ⟨tmc tmr T, σ0 ++ τ, mv0 ++ M⟩ ((⟨tmc tmr T, σ0 ++ τ, mv0 ++ M⟩ : St).put o.dst v (σ0 ++ τ) []) := by
          simp only [One, ho]
          exact ⟨v, σ0 ++ τ, [], (hfr τ).congr hkey, rfl⟩
        have hdT : ∀ d, o.dst = some d → ∀ q ∈ T, q.1 ≠ d := fun d hd q hq e => by
          obtain ⟨c, hc, oc, hoc, hdc⟩ := hkT q hq
          exact ((hC c hc oc hoc).1 q.1 hdc).2 (e ▸ hd)
        have hrest : Runs P W ops (L1.filter fun j => !(listed.setIfInBounds i true).getD j true) ((⟨tmr, σ0, mv0⟩ : St).put o.dst v σ0 []) ⟨tm1, σ0, mv0⟩ := h2
        have hset : ∃ tmr', ((⟨tmr, σ0, mv0⟩ : St).put o.dst v σ0 []) = ⟨tmr', σ0, mv0⟩ ∧ ((⟨tmc tmr T, σ0 ++ τ, mv0 ++ M⟩ : St).put o.dst v (σ0 ++ τ) []) = ⟨tmc tmr' T, σ0 ++ τ, mv0 ++ M⟩ ∧ ∀ j, tmr' j = tmr j ∨ (o.dst = some j ∧ tmr' j = v) := by
          cases hdst : o.dst with
          | none => exact ⟨tmr, by simp [St.put, pzT], by simp [St.put, pzT], fun j => .inl rfl⟩
          | some d =>
            refine ⟨upd tmr d v, by simp [St.put, pzT], by simp only [St.put, pzT, List.append_nil]; rw [tmc_upd (hdT d hdst)], fun j => ?_⟩
            simp only [upd]
            split
            · rename_i e; exact .inr ⟨by rw [e], rfl⟩
            · exact .inl rfl
        obtain ⟨tmr', e1, e2, e3⟩ := hset
        rw [e1] at hrest
        refine One_sound hok hR hone fun a' w' hR' => ?_
        rw [e2] at hR'
        have hCne : ∀ j ∈ C, j ≠ i := fun j hj e => hdis1 i hiL j (by simp [hj]) e.symm
        refine ih (listed.setIfInBounds i true) p T τ M tmr' a' w' (by simp [hs]) ?_ (cl_set hcl hi) (by rw [set_ne hCne]; exact hco) hch2 (by rw [set_ne hCne]; exact hcr) ?_ hrest hkT hf' hR'
        · intro l hl
          rw [getD_set_ne true (fun e => hdis1 i hiL l (by simp [hl]) e)]
          exact hu2 l hl
        · intro j
          rcases e3 j with e | ⟨hd, e⟩
          · rw [e]; exact htr j
          · have hkeep := (Runs_reads (fun y hy => by
              obtain ⟨oy, hoy, hcy, _⟩ := hrd y (List.mem_filter.1 hy).1
              exact ⟨oy, hoy, hcy⟩) hrest).2.2 j (fun y hy oy hoy hdy => by
                have hyne : y ≠ i := fun e => by
                  have := (List.mem_filter.1 hy).2
                  rw [e, getD_set_self' (by rw [hs]; exact hisz)] at this
                  simp at this
                have hyL := (List.mem_filter.1 hy).1
                exact hyne (dst_inj hnd1 hyL hiL (by simp only [dstOf, hoy]; exact hdy) (by simp only [dstOf, ho]; exact hd)))
            have hk2 : tm1 j = tmr' j := hkeep
            rw [← hk2]
            exact htm1 j
      · rcases List.mem_append.1 hiCL with hiC | hiL2
        · -- the chain's next
          obtain ⟨pre, suf, hps⟩ := List.append_of_mem hiC
          have hpre : ∀ j ∈ pre, listed.getD j false = true := by
            intro j hj
            rw [hps, List.pairwise_append] at hCp
            exact anc_listed hancOK hback hcl i j o ho hafter (hCp.2.2 j hj i (by simp))
          have e1 : C.filter (fun j => !listed.getD j true) = i :: suf.filter (fun j => !listed.getD j true) := by
            rw [hps, List.filter_append, List.filter_cons_of_pos (by rw [h0]; rfl), List.filter_eq_nil_iff.2 fun j hj => ?_]
            · rfl
            · have h1 := hpre j hj
              cases h2 : listed.getD j true with
              | true => simp
              | false => exact (not_both h1 h2).elim
          have hsne : ∀ j ∈ suf, j ≠ i := fun j hj e => by
            rw [hps, List.nodup_append] at hndC
            exact (List.nodup_cons.1 hndC.2.1).1 (e ▸ hj)
          have e2 : C.filter (fun j => !(listed.setIfInBounds i true).getD j true) = suf.filter (fun j => !listed.getD j true) := by
            rw [hps, List.filter_append, List.filter_cons_of_neg (by rw [getD_set_self' (by rw [hs]; exact hisz)]; simp), set_ne hsne, List.filter_eq_nil_iff.2 fun j hj => ?_]
            · rfl
            · have h1 := getD_set_true (i := i) (hpre j hj)
              cases h2 : (listed.setIfInBounds i true).getD j true with
              | true => simp
              | false => exact (not_both h1 h2).elim
          rw [e1] at hco hcr
          simp only [chainOK, ho, Bool.and_eq_true] at hco
          obtain ⟨hco1, hco2⟩ := hco
          simp only [CRuns] at hcr
          obtain ⟨o', v, σ', mv, ho', hap, hcr⟩ := hcr
          rw [ho] at ho'
          cases ho'
          obtain ⟨⟨b, rfl⟩, hv, hmv⟩ := chain_shape hco1 hk hσ hch2 hap
          obtain ⟨d, hdst⟩ : ∃ d, o.dst = some d := by
            have := hco1
            simp only [chainO, Bool.and_eq_true] at this
            exact Option.isSome_iff_exists.1 this.1.2
          -- what it looks at is known
          have hag : ∀ t ∈ o.looksAt ops, tmc tm1 T t = tmc tmr T t := fun t ht => tmc_congr <| by
            refine (Runs_reads (fun y hy => by
              obtain ⟨oy, hoy, hcy, _⟩ := hrd y (List.mem_filter.1 hy).1
              exact ⟨oy, hoy, hcy⟩) hr).2.2 t (fun y hy oy hoy hdy => ?_)
            obtain ⟨oy', hoy', _, hCy⟩ := hrd y (List.mem_filter.1 hy).1
            rw [hoy] at hoy'
            cases hoy'
            rcases (hCy i hiC o ho).2 with hb | hb
            · have h1 := anc_listed hancOK hback hcl i y o ho hafter hb
              have h2 := (List.mem_filter.1 hy).2
              exact not_both h1 (by simpa using h2)
            · exact hb t hdy ht
          have hap' : aop P (evS (tmc tmr T)) (σ0 ++ τ) o = some (v, σ0 ++ [b], mv) := by
            rw [← hap]
            refine aop_congr fun x hx => evS_congr fun t ht => (hag t ?_).symm
            simp only [Oper.looksAt, List.mem_append, List.mem_filterMap]
            exact .inl ⟨.tmp t, by rw [← ht]; simpa using hx, rfl⟩
          have hpz : ∀ tm : Nat → V, (∀ i, (tm i).pz [k] = tm i) → ∃ T', pzT mv (tmc tm T) = tmc tm T' ∧ T' = (if mv = [] then T else T.map fun q => (q.1, q.2.pz [k])) := by
            intro tm htm
            rcases hmv with ⟨rfl, _⟩ | rfl
            · exact ⟨T, rfl, by simp⟩
            · exact ⟨_, tmc_pz htm, by simp⟩
          obtain ⟨T1, t1, t2⟩ := hpz tmr htr
          obtain ⟨T1', t3, t4⟩ := hpz tm1 htm1
          have : T1' = T1 := by rw [t2, t4]
          subst this
          have p1 : ((⟨tmc tmr T, σ0 ++ τ, mv0 ++ M⟩ : St).put o.dst v (σ0 ++ [b]) mv) = ⟨tmc tmr ((d, v) :: T1'), σ0 ++ [b], mv0 ++ (M ++ mv)⟩ := by
            rw [hdst]
            simp only [St.put, tmc]
            rw [t1, List.append_assoc]
          have p2 : ((⟨tmc tm1 T, σ0 ++ τ, mv0 ++ M⟩ : St).put o.dst v (σ0 ++ [b]) mv) = ⟨tmc tm1 ((d, v) :: T1'), σ0 ++ [b], mv0 ++ (M ++ mv)⟩ := by
            rw [hdst]
            simp only [St.put, tmc]
            rw [t3, List.append_assoc]
          rw [p2] at hcr
          have hg : o.guard = none := by
            have := hco1
            simp only [chainO, Bool.and_eq_true, Option.isNone_iff_eq_none] at this
            exact this.1.1
          have hnb : (∃ v' σ'' mv', aop P (evS (tmc tmr T)) (σ0 ++ τ) o = some (v', σ'', mv')) := ⟨_, _, _, hap'⟩
          have hst : stepO P o ⟨tmc tmr T, σ0 ++ τ, mv0 ++ M⟩ (fun S => S = ⟨tmc tmr ((d, v) :: T1'), σ0 ++ [b], mv0 ++ (M ++ mv)⟩) := by
            have hc1 := hco1
            unfold chainO at hc1
            simp only [Bool.and_eq_true] at hc1
            obtain ⟨_, hc1⟩ := hc1
            unfold stepO
            split at hc1
            · rename_i hop
              simp only [hop, hap']
              exact p1
            · rename_i c hop
              simp only [Bool.and_eq_true] at hc1
              obtain ⟨⟨hc1, _⟩, _⟩ := hc1
              split at hc1
              · rename_i hcal
                simp only [hop, hcal, hap']
                exact p1
              · simp at hc1
            · simp at hc1
          have hL1ne : ∀ j ∈ L1, j ≠ i := fun j hj e => hdis1 j hj i (by simp [hiC]) e
          have hw : Region.wanted o (yielded ops a.tmps) = true := by simp [Region.wanted, hg]
          unfold wpOp
          simp only [ho, hw, if_true]
          refine .inl (stepO_sound hdi hR hst fun S3 a' w' hR' e => ?_)
          subst e
          rw [hdst] at hco2
          refine ih (listed.setIfInBounds i true) (some d) ((d, v) :: T1') [b] (M ++ mv) tmr a' w' (by simp [hs]) ?_ (cl_set hcl hi) (by rw [e2]; exact hco2) ⟨v, T1', b, rfl, rfl, hv⟩ (by rw [e2]; exact hcr) htr (by rw [set_ne hL1ne]; exact hr) ?_ hf' hR'
          · intro l hl
            rw [getD_set_ne true (fun e => hdis2 i hiC l hl e)]
            exact hu2 l hl
          · intro q hq
            rcases List.mem_cons.1 hq with rfl | hq
            · exact ⟨i, hiC, o, ho, hdst⟩
            · rw [t2] at hq
              split at hq
              · exact hkT q hq
              · obtain ⟨q0, h1, rfl⟩ := List.mem_map.1 hq
                exact hkT q0 h1
        · -- what comes behind all of them is not ready
          exfalso
          refine hdone (List.filter_eq_nil_iff.2 fun y hy => ?_)
          have := List.all_eq_true.1 (List.all_eq_true.1 hL i hiL2) y hy
          have h1 := anc_listed hancOK hback hcl i y o ho hafter this
          cases h2 : listed.getD y true with
          | true => simp
          | false => exact (not_both h1 h2).elim

/-- What is told of a region with a chain. -/
def chR (P : Program) (W : List FuncId) (ops : Array Oper) (L2 : List Nat) (Q : Ctl → St → Prop) : Ctl → St → Prop := fun _ S => awpD P W ops (Q .normal) L2 S
def chQ (P : Program) (W : List FuncId) (ops : Array Oper) (C L2 : List Nat) (Q : Ctl → St → Prop) : Ctl → St → Prop := fun _ S => Clear S ∧ awpOps P ops (chR P W ops L2 Q .normal) C S

theorem awp_drawC (W : List FuncId) (L1 C L2 anc : List Nat) {id : Nat} {ops : Array Oper} {Q : Ctl → St → Prop} {S : St} (hW : drawC W L1 C L2 anc ops = true) (hS : Clear S) (h : awpD P W ops (chQ P W ops C L2 Q .normal) L1 S) : awp P (.region id ops true) Q S := by
  refine awp_drawB (fun S' => Q .normal S') ?_ fun S' h => h
  intro N B id' Qx a w hm hok hR hq
  have hd := hW
  simp only [drawC, Bool.and_eq_true, decide_eq_true_eq] at hd
  obtain ⟨⟨⟨⟨⟨hd, hch⟩, hB⟩, hnd1⟩, hCp⟩, hL⟩ := hd
  obtain ⟨S1, h1, hc1, h2⟩ := awpD_runs h
  obtain ⟨S2, h3, h4⟩ := awpC_runs hch h2
  obtain ⟨S', h5, h6⟩ := awpD_runs h4
  have hrd := reads_of hB
  obtain ⟨e1, e2, _⟩ := Runs_reads (fun y hy => by
    obtain ⟨oy, hoy, hcy, _⟩ := hrd y hy
    exact ⟨oy, hoy, hcy⟩) h1
  obtain ⟨tm0, σ0, mv0⟩ := S
  obtain ⟨tm1, σ1, mv1⟩ := S1
  simp only at e1 e2
  subst e1 e2
  refine wp_region_any hm ?_
  have hR' : Rel N B ⟨tm0, σ1, mv1⟩ a { w with drawn := w.drawn + 1 } := by
    obtain ⟨hsz, hdf, β, I, hi, htm, hst, hk⟩ := hR
    exact ⟨hsz, hdf, β, I, ⟨hi.imm, hi.blk, hi.live, hi.inj⟩, htm, ⟨hst.os, hst.tape, hst.output, hst.size, hst.frame, hst.mono, hst.fresh, hst.tags, Nat.le_trans hst.drawn (Nat.le_succ _)⟩, hk⟩
  have hall : ∀ {l : List Nat}, (∀ k ∈ l, k ∈ L1 ++ (C ++ L2)) → l.filter (fun i => !(Array.replicate ops.size false).getD i true) = l := by
    intro l hl
    apply List.filter_eq_self.2
    intro k hk
    have : k < ops.size := (drawX_mem hd k).2 (hl k hk)
    simp [this]
  have hlen : (L1 ++ (C ++ L2)).length ≤ ops.size := by
    have hd := hd
    simp only [drawX, Bool.and_eq_true, decide_eq_true_eq] at hd
    exact hd.1.2
  refine runs_chain (K := fun S' => Q .normal S') (mv0 := mv1) hok hW (fun S a w h1 h2 => hq S a w h1 h2) h6 rfl hc1.2 hc1.1 h5 ops.size _ none [] [] [] tm0 a _ (by simp) ?_ ?_ (by rw [hall (fun i hi => by simp [hi])]; exact hch) ⟨rfl, rfl⟩ (by rw [hall (fun i hi => by simp [hi])]; simpa [tmc] using h3) hS.1 (by rw [hall (fun i hi => by simp [hi])]; exact h1) (by simp) (by rw [hall (fun _ h => h)]; exact hlen) (by simpa [tmc] using hR')
  · intro k hk
    have : k < ops.size := (drawX_mem hd k).2 (by simp [hk])
    simp [this]
  · intro i o hl
    exfalso
    rw [Array.getD_eq_getD_getElem?, Array.getElem?_replicate] at hl
    split at hl <;> simp at hl

theorem two_mk {ops : Array Oper} {i j : Nat} {B1 B2 : List Nat} {Q : Ctl → St → Prop} {S : St} (S0 : St) (h1 : awpD P W ops (weakQ S0 .normal) (i :: j :: B1) S) (h2 : awpD P W ops (weakQ S0 .normal) (j :: i :: B2) S) (h3 : Q .normal S0) : twoQ P W ops i j B1 B2 Q .normal S := ⟨S0, h1, h2, h3⟩
theorem weak_mk {S0 S : St} {c : Ctl} (h : Weak S S0) : weakQ S0 c S := h
theorem chQ_mk {ops : Array Oper} {C L2 : List Nat} {Q : Ctl → St → Prop} {S : St} (h1 : Clear S) (h2 : awpOps P ops (chR P W ops L2 Q .normal) C S) : chQ P W ops C L2 Q .normal S := ⟨h1, h2⟩
theorem chR_mk {ops : Array Oper} {L2 : List Nat} {Q : Ctl → St → Prop} {S : St} (h : awpD P W ops (Q .normal) L2 S) : chR P W ops L2 Q .normal S := h
theorem clear_tms {l : List (Nat × V)} {σ : List Blk} {mv : List Nat} (k : Nat) (hk : σ.length = k) (h1 : ∀ p ∈ l, p.2.pz [k] = p.2) (h2 : ∀ b ∈ σ, Blk.pz [k] b = b) : Clear ⟨Go.Ai.tms l, σ, mv⟩ := by
  refine ⟨fun i => ?_, ?_⟩
  · simp only [hk]
    induction l with
    | nil => rfl
    | cons p l ih =>
      obtain ⟨j, v⟩ := p
      rw [tms_cons]
      split
      · exact h1 (j, v) (by simp)
      · exact ih fun q hq => h1 q (by simp [hq])
  · simp only [hk]
    rw [List.map_congr_left h2, List.map_id']

end
end Go.Ai
