/- An interpreter of the language over data, and the proof that what it answers is what the machine does; no condition. -/
import Derived.Test.YtdojjjjhbgkpfaaAiM
set_option linter.unusedVariables false
set_option linter.unusedSimpArgs false
namespace Go.Ai
open Go.ChangeMaps (setBlock)
/-! ## What leaves an order open: the next entry of a map -/
def nextK (σ : List Blk) (K : V → List Blk → List Nat → Prop) : V → Prop
  | .ptr ti 0 0 => match σ[ti]? with
    | some (.it none _ _ _) => K (.tuple [.s (.bool false)]) σ []
    | some (.it (some m) since seen last) => match σ[m]? with
      | some (.mp es clock) => (∀ e ∈ es, e.2.2 < since) ∧ since ≤ last ∧
          (∀ e ∈ es, e.2.2 ∉ seen → K (.tuple [.s (.bool true), e.1, e.2.1]) (σ.set ti (.it (some m) since (seen ++ [e.2.2]) clock)) []) ∧
          ((∀ e ∈ es, e.2.2 ∈ seen) → K (.tuple [.s (.bool false)]) σ [])
      | _ => False
    | _ => False
  | _ => False
/-- The entry that was handed out last. -/
def aentry (σ : List Blk) : V → Option V
  | .ptr ti 0 0 => match σ[ti]? with
    | some (.it (some m) since seen last) => match σ[m]?, seen.getLast? with
      | some (.mp es clock), some b => if clock = last then (es.find? fun e => e.2.2 == b).map fun e => .tuple [e.1, e.2.1] else none
      | _, _ => none
    | _ => none
  | _ => none
/-- Both, each by itself. -/
structure Two (a b : Prop) : Prop where
  l : a
  r : b
theorem two_split {a b : Prop} (h1 : a) (h2 : b) : Two a b := ⟨h1, h2⟩
/-- An empty row that is frozen: it may be nil, and it may not. -/
def nil2 (P : Program) (t : TypeId) (x y : V) : Bool := match P.underlying t, x, y with
  | some (.slice _), .sl _ [], .s (.slice none 0 0) => true
  | _, _, _ => false
def nil2K (P : Program) (t : TypeId) (x y : V) (σ : List Blk) (K : V → List Blk → List Nat → Prop) : BinOp → Prop
  | .eql | .neq => nil2 P t x y = true ∧ Two (K (.s (.bool true)) σ []) (K (.s (.bool false)) σ [])
  | _ => False
def stepY (P : Program) (ev : Operand → V) (σ : List Blk) (K : V → List Blk → List Nat → Prop) : Op → Prop
  | .next it false => nextK σ K (ev it)
  | .entry it => match aentry σ (ev it) with
    | some v => K v σ []
    | none => False
  | .binOp op t x y _ => nil2K P t (ev x) (ev y) σ K op
  | _ => False
def stepX (P : Program) (ev : Operand → V) (σ : List Blk) (o : Oper) (K : V → List Blk → List Nat → Prop) : Prop :=
  match amap P ev σ o with
  | some (v, σ', mv) => K v σ' mv
  | none => stepY P ev σ K o.op
theorem nextK_mono {σ : List Blk} {K K' : V → List Blk → List Nat → Prop} (hk : ∀ v s m, K v s m → K' v s m) {v : V} (h : nextK σ K v) : nextK σ K' v := by
  cases v with
  | ptr ti i o =>
    cases i with
    | succ i => simp [nextK] at h
    | zero =>
      cases o with
      | succ o => simp [nextK] at h
      | zero =>
        simp only [nextK] at h ⊢
        cases hb : σ[ti]? with
        | none => simp [hb] at h
        | some k =>
          cases k with
          | it m since seen last =>
            cases m with
            | none => simp only [hb] at h ⊢; exact hk _ _ _ h
            | some m =>
              simp only [hb] at h ⊢
              cases hm : σ[m]? with
              | none => simp [hm] at h
              | some k =>
                cases k with
                | mp es clock =>
                  simp only [hm] at h ⊢
                  exact ⟨h.1, h.2.1, fun x hx hn => hk _ _ _ (h.2.2.1 x hx hn), fun hx => hk _ _ _ (h.2.2.2 hx)⟩
                | _ => simp [hm] at h
          | _ => simp [hb] at h
  | _ => simp [nextK] at h
theorem nil2K_mono {P : Program} {t : TypeId} {x y : V} {σ : List Blk} {K K' : V → List Blk → List Nat → Prop} (hk : ∀ v s m, K v s m → K' v s m) {op : BinOp} (h : nil2K P t x y σ K op) : nil2K P t x y σ K' op := by
  cases op <;> simp only [nil2K] at h ⊢ <;> exact ⟨h.1, hk _ _ _ h.2.1, hk _ _ _ h.2.2⟩
theorem stepX_mono {P : Program} {ev : Operand → V} {σ : List Blk} {o : Oper} {K K' : V → List Blk → List Nat → Prop} (hk : ∀ v s m, K v s m → K' v s m) (h : stepX P ev σ o K) : stepX P ev σ o K' := by
  unfold stepX at *
  split
  · rename_i v σ' mv e; simp only [e] at h; exact hk _ _ _ h
  · rename_i e
    simp only [e] at h
    cases ho : o.op <;> simp only [ho, stepY] at h ⊢ <;> try exact h.elim
    · exact nil2K_mono hk h
    · rename_i it b
      cases b with
      | true => simp only [stepY] at h
      | false => simp only [stepY] at h ⊢; exact nextK_mono hk h
    · split
      · rename_i e2; simp only [e2] at h; exact hk _ _ _ h
      · rename_i e2; simp only [e2] at h
section
variable {P : Program} {β : Nat → Option BV} {I : Imm} {w : World} {σ : List Blk}
theorem EsR.mem : ∀ {es : List (V × V × Nat)} {cs : List MapEntry}, EsR β I es cs → ∀ c ∈ cs, ∃ e ∈ es, VR β I e.1 c.key ∧ VR β I e.2.1 c.val ∧ c.born = e.2.2
  | [], [], _, c, hc => by simp at hc
  | e :: es, d :: cs, h, c, hc => by
    simp only [EsR] at h
    rcases List.mem_cons.1 hc with rfl | hc
    · exact ⟨e, by simp, h.1⟩
    · obtain ⟨e', h1, h2⟩ := EsR.mem h.2 c hc
      exact ⟨e', by simp [h1], h2⟩
  | [], _ :: _, h, _, _ => by simp [EsR] at h
  | _ :: _, [], h, _, _ => by simp [EsR] at h
theorem EsR.mem' : ∀ {es : List (V × V × Nat)} {cs : List MapEntry}, EsR β I es cs → ∀ e ∈ es, ∃ c ∈ cs, VR β I e.1 c.key ∧ VR β I e.2.1 c.val ∧ c.born = e.2.2
  | [], [], _, e, he => by simp at he
  | e0 :: es, d :: cs, h, e, he => by
    simp only [EsR] at h
    rcases List.mem_cons.1 he with rfl | he
    · exact ⟨d, by simp, h.1⟩
    · obtain ⟨c', h1, h2⟩ := EsR.mem' h.2 e he
      exact ⟨c', by simp [h1], h2⟩
  | [], _ :: _, h, _, _ => by simp [EsR] at h
  | _ :: _, [], h, _, _ => by simp [EsR] at h
theorem EsR.find : ∀ {es : List (V × V × Nat)} {cs : List MapEntry} {b : Nat} {e : V × V × Nat}, EsR β I es cs → es.find? (fun e => e.2.2 == b) = some e → ∃ c, cs.find? (·.born == b) = some c ∧ VR β I e.1 c.key ∧ VR β I e.2.1 c.val
  | [], [], _, _, _, h => by simp at h
  | e0 :: es, d :: cs, b, e, hr, h => by
    simp only [EsR] at hr
    rw [List.find?_cons] at h ⊢
    rw [hr.1.2.2]
    split at h
    · rename_i hb
      simp only [hb]
      simp at h
      subst h
      exact ⟨d, rfl, hr.1.1, hr.1.2.1⟩
    · rename_i hb
      simp only [hb]
      exact EsR.find hr.2 h
  | [], _ :: _, _, _, h, _ => by simp [EsR] at h
  | _ :: _, [], _, _, h, _ => by simp [EsR] at h
theorem setBlock_upd (hi : Inv β I σ w) {ti b : Nat} (hb : β ti = some (.real ⟨b, 1, 0⟩)) (hnc : ∀ o, w.cell? ⟨b, o, none⟩ = none) {w1 : World} (hw : w1 = w ∨ w1 = w.drew) {o : Obj} {k : Blk} (hk : ∀ w', w'.heap[b]? = some o → BlkR β I w' ti k) :
    Inv β I (σ.set ti k) (setBlock w1 b o) ∧ Step β I w β I (setBlock w1 b o) := by
  have hlt := hi.blt hb
  have hh : w1.heap = w.heap := by rcases hw with rfl | rfl <;> rfl
  have h1 : ∀ b', b' ≠ b → (setBlock w1 b o).heap[b']? = w.heap[b']? := fun b' hne => by
    simp only [setBlock, hh, Array.getElem?_setIfInBounds]
    rw [if_neg (Ne.symm hne)]
  have h2 : (setBlock w1 b o).heap[b]? = some o := by
    simp only [setBlock, hh]
    simp [Array.getElem?_setIfInBounds, hlt]
  have hsz : w.heap.size ≤ (setBlock w1 b o).heap.size := by simp [setBlock, hh]
  refine ⟨hi.upd hb hsz (fun b' _ hne => h1 b' hne) (fun o v hv => ?_) _ (hk _ h2), Step.upd hb ?_ ?_ ?_ hsz (fun b' _ hne => h1 b' hne) (by rcases hw with rfl | rfl <;> first | exact Nat.le_refl _ | exact Nat.le_succ _)⟩
  · have := hi.imm _ _ _ hv
    rw [hnc o] at this
    cases this
  all_goals (rcases hw with rfl | rfl <;> rfl)
theorem eqNil_sl {e t : TypeId} (hu : P.underlying t = some (.slice e)) (d : Nat) (a : Option Addr) (cap : Nat) (w : World) : (Op.equalIn (d + 1) t (.slice a 0 cap) (.slice none 0 0)).run P w = .ok a.isNone w := by
  cases a <;> simp [Op.equalIn, run_und hu]
theorem stepX_sound (hi : Inv β I σ w) {ev : Operand → V} {ρ : Operand → Value} (hev : EvR β I ev ρ) {o : Oper} {K : V → List Blk → List Nat → Prop} (h : stepX P ev σ o K) :
    ∃ v σ' mv, K v σ' mv ∧ OpGives P (execOp ρ o) β I w v σ' mv := by
  unfold stepX at h
  split at h
  · rename_i v σ' mv e
    exact ⟨v, σ', mv, h, amap_sound hi hev e⟩
  · cases ho : o.op <;> simp only [ho, stepY] at h <;> try exact h.elim
    · rename_i op t x y yt
      have key : (op = .eql ∨ op = .neq) → nil2 P t (ev x) (ev y) = true ∧ Two (K (.s (.bool true)) σ []) (K (.s (.bool false)) σ []) → ∃ v σ' mv, K v σ' mv ∧ OpGives P (execOp ρ o) β I w v σ' mv := by
        rintro hop ⟨hn2, h⟩
        unfold nil2 at hn2
        split at hn2
        · rename_i e z hu h1 h2
          have hx := hev x
          have hy := hev y
          rw [h1] at hx
          rw [h2] at hy
          simp only [VR] at hy
          obtain ⟨hy, _⟩ := hy
          simp only [VR, TR] at hx
          obtain ⟨a, cap, hxc, _⟩ := hx
          have hg : (eqGuard op t x y (ρ x) (ρ y)).run P w = .ok () w := by
            rw [hxc, hy]
            rcases hop with rfl | rfl <;> simp [eqGuard]
          have hb : ∀ a' : Option Addr, ρ x = .slice a' 0 cap → (Op.equal t (ρ x) (ρ y)).run P w = .ok a'.isNone w := by
            intro a' ha
            rw [ha, hy]
            unfold Op.equal Op.maxDepth
            exact eqNil_sl hu 9999 a' cap w
          have hn : nonum (ρ y) = true := by rw [hy]; rfl
          have hb' := hb a hxc
          have done : ∀ r : Bool, (Go.binOp op t (ρ x) (ρ y)).run P w = .ok (.bool r) w → ∃ v σ' mv, K v σ' mv ∧ OpGives P (execOp ρ o) β I w v σ' mv := by
            intro r hr
            refine ⟨.s (.bool r), σ, [], (by cases r; exact h.2; exact h.1), ?_⟩
            unfold execOp
            simp only [ho]
            refine OpGives.same hi ⟨.bool r, ?_, by simp [VR, scalar]⟩
            simp only [Sem.run_bind, hg, Result.andThen_ok, hr]
          rcases hop with rfl | rfl
          · refine done a.isNone ?_
            rw [binOp_eql hn]
            simp [hb']
          · refine done (!a.isNone) ?_
            rw [binOp_neq hn]
            simp [hb']
        · simp at hn2
      cases op <;> simp only [nil2K] at h <;> first | exact h.elim | exact key (by simp) h
    · rename_i it b
      cases b with
      | true => simp only [stepY] at h
      | false =>
        simp only [stepY] at h
        have hx := hev it
        unfold execOp
        simp only [ho]
        unfold nextK at h
        split at h
        · rename_i ti hit
          rw [hit] at hx
          simp only [VR] at hx
          obtain ⟨x, hx1, hx2⟩ := hx
          split at h
          · rename_i since seen last hk
            refine ⟨_, _, _, h, ?_⟩
            have hb := hi.blk ti _ hk
            simp only [BlkR] at hb
            obtain ⟨b, g1, mv', g2, g3⟩ := hb
            rw [g1] at hx1
            cases hx1
            rcases g3 with ⟨_, rfl⟩ | ⟨tm, y, g3, _⟩
            · refine OpGives.same hi ⟨.tuple #[.bool false], ?_, by simp [VR, VRs, scalar]⟩
              simp [hx2, Instr.next, getObj, Sem.run, g2]
            · cases g3
          · rename_i m since seen last hk
            split at h
            · rename_i es clock hm
              obtain ⟨h1, h2, h3, h4⟩ := h
              obtain ⟨bm, cs, c1, c2, c3⟩ := hi.mp hm
              have hb := hi.blk ti _ hk
              simp only [BlkR] at hb
              obtain ⟨b, g1, mv', g2, g3⟩ := hb
              rw [g1] at hx1
              cases hx1
              rcases g3 with ⟨g3, _⟩ | ⟨tm, y, g3, g4, rfl⟩
              · cases g3
              · cases g3
                rw [c1] at g4
                cases g4
                have hold : ∀ x ∈ cs.toList, x.born < since := fun x hx => by
                  obtain ⟨e, he, _, _, hb⟩ := EsR.mem c3 x hx
                  rw [hb]; exact h1 e he
                have hptr : (⟨b, 0 * 0 + 0, none⟩ : Addr) = ⟨b, 0, none⟩ := rfl
                rcases run_next_at (P := P) w o.type b bm since last seen.toArray cs clock g2 c2 hold h2 with ⟨h5, h6⟩ | ⟨ce, h5, w1, hw1, h6⟩
                · refine ⟨_, _, _, h4 fun e he => ?_, OpGives.same hi ⟨.tuple #[.bool false], ?_, by simp [VR, VRs, scalar]⟩⟩
                  · obtain ⟨c, hc, _, _, hb⟩ := EsR.mem' c3 e he
                    have h7 : leftOf cs seen.toArray = #[] := Array.eq_empty_of_size_eq_zero h5
                    unfold leftOf at h7
                    rw [Array.filter_eq_empty_iff] at h7
                    have := h7 c (by simpa using hc)
                    simpa [hb] using this
                  · rw [hx2]; simpa using h6
                · have hmem : ce ∈ cs.toList ∧ ce.born ∉ seen := by
                    unfold leftOf at h5
                    simp at h5
                    simpa using h5
                  obtain ⟨e, he, k1, k2, k3⟩ := EsR.mem c3 ce hmem.1
                  have hnc : ∀ o, w.cell? ⟨b, o, none⟩ = none := fun o => by simp [World.cell?, g2]
                  obtain ⟨i1, s1⟩ := setBlock_upd hi g1 hnc hw1 (o := .mapIter (some bm) since (seen.toArray.push ce.born) clock) (k := .it (some m) since (seen ++ [e.2.2]) clock) (fun w' hw' => by
                    simp only [BlkR]
                    exact ⟨b, g1, some bm, by rw [hw', k3]; simp, .inr ⟨m, _, rfl, c1, rfl⟩⟩)
                  refine ⟨_, _, _, h3 e he (by rw [← k3]; exact hmem.2), .value (.tuple #[.bool true, ce.key, ce.val]), _, β, I, ?_, .inl ⟨_, rfl, ?_⟩, i1, s1, Keeps.refl _⟩
                  · rw [hx2]
                    simp only [Sem.run_bind]
                    have h6' := h6
                    rw [show (⟨b, 0 * 0 + 0, none⟩ : Addr) = ⟨b, 0, none⟩ from rfl]
                    rw [h6']
                    rfl
                  · simp only [VR]
                    exact ⟨_, rfl, by simp only [VRs, VR, scalar]; exact ⟨⟨trivial, trivial⟩, k1, k2, trivial⟩⟩
            · exact h.elim
          · exact h.elim
        · exact h.elim
    · rename_i it
      have hx := hev it
      split at h
      · rename_i v hv
        refine ⟨_, _, _, h, ?_⟩
        unfold execOp
        simp only [ho]
        unfold aentry at hv
        split at hv
        · rename_i ti hit
          rw [hit] at hx
          simp only [VR] at hx
          obtain ⟨x, hx1, hx2⟩ := hx
          split at hv
          · rename_i m since seen last hk
            split at hv
            · rename_i es clock bl hm hl
              split at hv
              · rename_i hcl
                simp only [Option.map_eq_some_iff] at hv
                obtain ⟨e, he, rfl⟩ := hv
                obtain ⟨bm, cs, c1, c2, c3⟩ := hi.mp hm
                have hb := hi.blk ti _ hk
                simp only [BlkR] at hb
                obtain ⟨b, g1, mv', g2, g3⟩ := hb
                rw [g1] at hx1
                cases hx1
                rcases g3 with ⟨g3, _⟩ | ⟨tm, y, g3, g4, rfl⟩
                · cases g3
                · cases g3
                  rw [c1] at g4
                  cases g4
                  obtain ⟨ce, f1, f2, f3⟩ := EsR.find c3 he
                  refine OpGives.same hi ⟨.tuple #[ce.key, ce.val], ?_, by simp only [VR]; exact ⟨_, rfl, by simp only [VRs]; exact ⟨f2, f3, trivial⟩⟩⟩
                  have f1' : cs.find? (·.born == bl) = some ce := by rw [← Array.find?_toList]; exact f1
                  have hback : seen.toArray.back? = some bl := by simpa using hl
                  rw [hx2, show (⟨b, 0 * 0 + 0, none⟩ : Addr) = ⟨b, 0, none⟩ from rfl]
                  simp only [Instr.entry, getObj, Sem.run_bind, Sem.run, g2, c2, Result.andThen, hback, hcl, bne_self_eq_false, Bool.false_eq_true, if_false, f1']
                  rfl
              · simp at hv
            · simp at hv
          · simp at hv
        · simp at hv
      · exact h.elim
end
end Go.Ai
