/- An interpreter of the language over data, and the proof that what it answers is what the machine does; no condition. -/
import Derived.Test.YtdojjjjhbgkpfaaMvpB
import Derived.RangeFuncCalls
import Derived.OwnWalkIn
set_option linter.unusedVariables false
set_option linter.unusedSimpArgs false
namespace Go.Ai
/-! ## The same walk in a round of a loop over a function -/
abbrev Rnd (l : Nat) : Fence := Fence.wide.inRound l
section
variable {P : Program} {n : Nat}
theorem stepO_soundIn {l N : Nat} {B : Base} {o : Oper} {S : St} {a : Act} {w : World} {K : St → Prop} {next : Act → World → Prop} {Q : Exit → Act → World → Prop} (hd : ∀ d, o.dst = some d → d < N) (hR : Rel N B S a w) (h : stepO P o S K) (hnd : ∀ c, o.op ≠ .defer c)
    (hn : ∀ S' a' w', Rel N B S' a' w' → K S' → next a' w') : o.wpIn (Rnd l) n P a w next Q := by
  obtain ⟨hsz, hdf, β, I, hi, htm, hst, hk⟩ := hR
  have hev := evS_rel htm
  have plainX : (∃ v σ' mv, K (S.put o.dst v σ' mv) ∧ OpGives P (execOp a.eval o) β I w v σ' mv) → o.wpIn (Rnd l) n P a w next Q := by
    rintro ⟨v, σ', mv, h2, nx, w', β', I', g1, g2, g3, g4, g5⟩
    refine ⟨fun _ _ => trivial, ?_⟩
    rw [Oper.semAt_plain (Rnd l) _ _ hnd, g1]
    rcases g2 with ⟨c, rfl, g2⟩ | ⟨rfl, rfl⟩
    · rw [Oper.uponIn_value]
      exact hn _ _ _ (put_rel hsz hdf htm hst hk hd g2 g3 g4 g5) h2
    · rw [Oper.uponIn_skip]
      exact hn _ _ _ (put_rel hsz hdf htm hst hk hd (by simp [VR]) g3 g4 g5) h2
  have plain : (∃ v σ' mv, aop P (evS S.tm) S.σ o = some (v, σ', mv) ∧ K (S.put o.dst v σ' mv)) → o.wpIn (Rnd l) n P a w next Q := by
    rintro ⟨v, σ', mv, h1, h2⟩
    exact plainX ⟨v, σ', mv, h2, aop_sound hi hev h1⟩
  unfold stepO at h
  split at h
  · rename_i c hop
    split at h
    · rename_i f hcal
      split at h
      · rename_i k first caps hf
        have hfv := hev f
        rw [hf] at hfv
        simp only [VR] at hfv
        obtain ⟨fv, cv, e, hfv1, hfv2⟩ := hfv
        have hargs := hev.map c.args.toList
        have hall := (hfv1.append hargs).append hfv2
        have hcall := h.2 β I w _ hi hall
        refine ⟨fun _ _ => trivial, ?_⟩
        rw [Oper.semAt_plain (Rnd l) _ _ hnd]
        have hrun : (execOp a.eval o).run P w = .ok (.enter k (fv.toList ++ c.args.toList.map a.eval ++ cv.toList).toArray) w := by
          have e1 : (fv.toList ++ c.args.toList.map a.eval ++ cv.toList).toArray = fv ++ c.args.map a.eval ++ cv := by
            apply Array.ext'
            simp
          rw [e1]
          simp [execOp, hop, resolve, hcal, e, Deferred.ofValue, invoke, run_callFunc h.1]
        rw [hrun, Oper.uponIn_enter]
        refine ⟨fun hh => by simp [Fence.inRound, Fence.wide] at hh, ?_⟩
        refine (CallsIn.inRound l (callsIn_wide.2 hcall)).mono fun e w' hp => ?_
        obtain ⟨c', β', I', r, σ', mv, rfl, h1, h2, h3, h4, h5⟩ := hp
        exact hn _ _ _ (put_rel hsz hdf htm hst hk hd h2 h3 h4 h5) h1
      · exact h.elim
    · split at h
      · rename_i v σ' mv h1
        exact plain ⟨v, σ', mv, h1, h⟩
      · exact plainX (stepX_sound hi hev h)
  · split at h
    · rename_i v σ' mv h1
      exact plain ⟨v, σ', mv, h1, h⟩
    · exact plainX (stepX_sound hi hev h)
theorem awpOps_soundIn {r N : Nat} {B : Base} {ops : Array Oper} {K : St → Prop} {Q : Exit → Act → World → Prop} (hok : opsOK N ops = true) (hnd : nodef ops = true) (hq : ∀ S a w, Rel N B S a w → K S → Q .normal a w) :
    ∀ (l : List Nat) (S : St) (a : Act) (w : World), Rel N B S a w → awpOps P ops K l S → wpOpsIn (Rnd r) n P ops Q l a w
  | [], S, a, w, hR, h => hq S a w hR h
  | i :: rest, S, a, w, hR, h => by
    have hnd' : ∀ o : Oper, ops[i]? = some o → ∀ c, o.op ≠ .defer c := fun o ho c e => by
      have := (Array.all_eq_true_iff_forall_mem.1 hnd) o (Array.mem_of_getElem? ho)
      simp [e] at this
    simp only [awpOps] at h
    simp only [wpOpsIn]
    cases ho : ops[i]? with
    | none => simp only [ho] at h; exact awpOps_soundIn hok hnd hq rest S a w hR h
    | some o =>
      simp only [ho] at h
      have hd : ∀ d, o.dst = some d → d < N := by
        intro d hd
        have hm : o ∈ ops := Array.mem_of_getElem? ho
        have := (Array.all_eq_true_iff_forall_mem.1 hok) o hm
        simpa [hd] using this
      have hskip : Rel N B (S.put o.dst (.tuple []) S.σ []) (a.put o.dst undef) w := by
        obtain ⟨hsz, hdf, β, I, hi, htm, hst, hk⟩ := hR
        exact put_rel hsz hdf htm hst hk hd VR_undef hi (Step.refl _ _ _) (Keeps.refl _)
      cases hg : o.guard with
      | none =>
        simp only [hg] at h
        have hw : Region.wanted o (yielded ops a.tmps) = true := by simp [Region.wanted, hg]
        simp only [hw, if_true]
        exact stepO_soundIn hd hR h (hnd' o ho) (fun S' a' w' hR' h' => awpOps_soundIn hok hnd hq rest S' a' w' hR' h')
      | some jw =>
        obtain ⟨j, want⟩ := jw
        simp only [hg] at h
        cases hdj : (ops[j]?).bind (·.dst) with
        | none => simp [hdj] at h
        | some d =>
          simp only [hdj] at h
          split at h
          · rename_i b hb
            have hy : yielded ops a.tmps j = some b := by
              obtain ⟨hsz, hdf, β, I, hi, htm, hst, hk⟩ := hR
              have hv := htm d
              rw [hb] at hv
              simp only [VR] at hv
              simp only [yielded, hdj, Option.bind_some]
              have hdl : d < a.tmps.size := by
                rcases Nat.lt_or_ge d a.tmps.size with h | h
                · exact h
                · have := hv.1
                  rw [Array.getD_eq_getD_getElem?, Array.getElem?_eq_none h] at this
                  simp [undef] at this
              have : a.tmps[d]? = some (.bool b) := by
                rw [Array.getElem?_eq_getElem hdl]
                have := hv.1
                rw [Array.getD_eq_getD_getElem?, Array.getElem?_eq_getElem hdl] at this
                simpa using this
              rw [this]
            by_cases hbw : b = want
            · have hw : Region.wanted o (yielded ops a.tmps) = true := by simp [Region.wanted, hg, hy, hbw]
              simp only [hw, if_true]
              exact stepO_soundIn hd hR (h.1 hbw) (hnd' o ho) (fun S' a' w' hR' h' => awpOps_soundIn hok hnd hq rest S' a' w' hR' h')
            · have hw : Region.wanted o (yielded ops a.tmps) = false := by simp [Region.wanted, hg, hy, hbw]
              simp only [hw, Bool.false_eq_true, if_false]
              exact ⟨fun _ _ => trivial, awpOps_soundIn hok hnd hq rest _ _ w hskip (h.2 hbw)⟩
          · rename_i ht
            have hy : yielded ops a.tmps j = none := by
              obtain ⟨hsz, hdf, β, I, hi, htm, hst, hk⟩ := hR
              exact yielded_none hdj (by have := htm d; rwa [ht] at this)
            have hw : Region.wanted o (yielded ops a.tmps) = false := by simp [Region.wanted, hg, hy]
            simp only [hw, Bool.false_eq_true, if_false]
            exact ⟨fun _ _ => trivial, awpOps_soundIn hok hnd hq rest _ _ w hskip h⟩
          · exact h.elim
def LiftR (N : Nat) (B : Base) (Q : Ctl → St → Prop) : Exit → Act → World → Prop := fun e a w => ∃ c S, CR c e ∧ Rel N B S a w ∧ Q c S
theorem awp_soundIn {r N : Nat} {B : Base} : ∀ (c : Code) (Q : Ctl → St → Prop) (S : St) (a : Act) (w : World), codeOKr N c = true → Rel N B S a w → awp P c Q S → c.wpIn (Rnd r) n P (LiftR N B Q) a w
  | .skip, Q, S, a, w, _, hR, h => wpIn_skip ⟨.normal, S, trivial, hR, h⟩
  | .label _, Q, S, a, w, _, hR, h => wpIn_label ⟨.normal, S, trivial, hR, h⟩
  | .exit id, Q, S, a, w, _, hR, h => wpIn_exit ⟨.exit id, S, rfl, hR, h⟩
  | .region id ops false, Q, S, a, w, hok, hR, h => by
    simp only [codeOKr, Bool.and_eq_true] at hok
    exact wpIn_region (awpOps_soundIn hok.1 hok.2 (fun S' a' w' hR' h' => ⟨.normal, S', trivial, hR', h'⟩) _ S a w hR h)
  | .seq x y, Q, S, a, w, hok, hR, h => by
    simp only [codeOKr, Bool.and_eq_true] at hok
    refine wpIn_seq (wpIn_mono (awp_soundIn x _ S a w hok.1 hR h) fun e a' w' ⟨c, S', hc, hR', hq⟩ => ?_)
    cases c with
    | normal => cases e <;> first | exact awp_soundIn y Q S' a' w' hok.2 hR' hq | exact hc.elim
    | ret => cases e <;> first | exact ⟨.ret, S', hc, hR', hq⟩ | exact hc.elim
    | exit i => cases e <;> first | exact ⟨.exit i, S', hc, hR', hq⟩ | exact hc.elim
  | .cond c x y, Q, S, a, w, hok, hR, h => by
    simp only [codeOKr, Bool.and_eq_true] at hok
    simp only [awp] at h
    split at h
    · rename_i t ht
      have hv : a.eval c = .bool t := by
        obtain ⟨hsz, hdf, β, I, hi, htm, hst, hk⟩ := hR
        have := evS_rel htm c
        rw [ht] at this
        simp only [VR] at this
        exact this.1
      cases t with
      | true => exact wpIn_cond hv (by simpa using awp_soundIn x Q S a w hok.1 hR (h.1 rfl))
      | false => exact wpIn_cond hv (by simpa using awp_soundIn y Q S a w hok.2 hR (h.2 rfl))
    · exact h.elim
  | .block id b, Q, S, a, w, hok, hR, h => by
    simp only [codeOKr] at hok
    refine wpIn_block (wpIn_mono (awp_soundIn b _ S a w hok hR h) fun e a' w' ⟨c, S', hc, hR', hq⟩ => ?_)
    cases c with
    | normal => cases e <;> first | exact ⟨.normal, S', trivial, hR', hq⟩ | exact hc.elim
    | ret => cases e <;> first | exact ⟨.ret, S', trivial, hR', hq⟩ | exact hc.elim
    | exit i =>
      cases e with
      | exit j =>
        simp only [CR] at hc
        subst hc
        simp only [Exit.inBlock]
        by_cases e : i = id
        · rw [if_pos e]
          simp only [e, if_true] at hq
          exact ⟨.normal, S', trivial, hR', hq⟩
        · rw [if_neg e]
          simp only [e, if_false] at hq
          exact ⟨.exit i, S', rfl, hR', hq⟩
      | _ => exact hc.elim
  | .region _ _ true, _, _, _, _, hok, _, _ => by simp [codeOKr] at hok
  | .ret, _, _, _, _, hok, _, _ => by simp [codeOKr] at hok
  | .loop _, _, _, _, _, hok, _, _ => by simp [codeOKr] at hok
  | .rangeFunc .., _, _, _, _, hok, _, _ => by simp [codeOKr] at hok
  | .scope _, _, _, _, _, hok, _, _ => by simp [codeOKr] at hok
  | .goto _, _, _, _, _, hok, _, _ => by simp [codeOKr] at hok
  | .refuse _, _, _, _, _, hok, _, _ => by simp [codeOKr] at hok
end
end Go.Ai
