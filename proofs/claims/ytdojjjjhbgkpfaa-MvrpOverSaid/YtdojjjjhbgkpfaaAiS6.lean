/- An interpreter of the language over data, and the proof that what it answers is what the machine does; no condition. -/
import Derived.Test.YtdojjjjhbgkpfaaAiS4
import Derived.Lib.AppendStr
set_option linter.unusedVariables false
set_option linter.unusedSimpArgs false
namespace Go.Ai
section
variable {P : Program} {β : Nat → Option BV} {I : Imm} {w : World} {σ : List Blk}
/-- What an operation that gives a value comes to. -/
def Gives (P : Program) (s : Sem Value) (β : Nat → Option BV) (I : Imm) (w : World) (v : V) (σ' : List Blk) (mv : List Nat) : Prop :=
  ∃ c w' β' I', s.run P w = .ok c w' ∧ VR β' I' v c ∧ Inv β' I' σ' w' ∧ Step β I w β' I' w' ∧ Keeps mv β β'
theorem Gives.same (hi : Inv β I σ w) {s : Sem Value} {v : V} (h : ∃ c, s.run P w = .ok c w ∧ VR β I v c) : Gives P s β I w v σ [] := by
  obtain ⟨c, h1, h2⟩ := h
  exact ⟨c, w, β, I, h1, h2, hi, Step.refl _ _ _, Keeps.refl _⟩
theorem TRcells.of_list {b : Nat} : ∀ {ts : List T} {us : List Value} {o : Nat}, TRl I ts us → (∀ j u, us[j]? = some u → I b (o + j) = some u) → TRcells I b o ts
  | [], _, o, _, _ => by simp [TRcells]
  | t :: ts, u :: us, o, h, k => by
    simp only [TRl] at h
    simp only [TRcells]
    refine ⟨⟨u, by simpa using k 0 u rfl, h.1⟩, TRcells.of_list h.2 fun j v hv => ?_⟩
    have := k (j + 1) v (by simpa using hv)
    rwa [Nat.add_comm j 1, ← Nat.add_assoc] at this
  | _ :: _, [], o, h, _ => by simp [TRl] at h
/-! ### What is frozen -/
theorem Inv.freeze (hi : Inv β I σ w) {t z : Nat} {xs : List (List T)} {ro : Bool} (hk : σ[t]? = some (.rows z xs ro)) :
    ∃ I', Inv β I' (σ.set t (.rows z xs true)) w ∧ Step β I w β I' w ∧ ∀ off len c, off + len ≤ xs.length → VR β I (.own t off len) c → TR I' (.sl z ((xs.drop off).take len)) c := by
  have hlt : t < σ.length := (List.getElem?_eq_some_iff.1 hk).1
  have hb := hi.blk t _ hk
  simp only [BlkR] at hb
  rcases hb with ⟨h1, rfl⟩ | ⟨b, cap, cs, e, h1, h2, h3, h4, h5, h6, h7, h8⟩
  · refine ⟨I, ⟨hi.imm, fun t' k' hk' => ?_, fun t' x hx => ?_, hi.inj⟩, Step.refl _ _ _, fun off len c hle hx => ?_⟩
    · by_cases e : t' = t
      · subst e
        rw [List.getElem?_set_self hlt] at hk'
        simp at hk'
        subst hk'
        simp only [BlkR]
        exact .inl ⟨h1, trivial⟩
      · rw [List.getElem?_set_ne (Ne.symm e)] at hk'
        exact hi.blk t' k' hk'
    · obtain ⟨k', h2, h3⟩ := hi.live t' x hx
      by_cases e : t' = t
      · subst e; exact ⟨_, List.getElem?_set_self hlt, h3⟩
      · exact ⟨k', by rw [List.getElem?_set_ne (Ne.symm e)]; exact h2, h3⟩
    · simp at hle
      simp only [VR] at hx
      simp only [TR]
      rcases hx with ⟨y, hy, _⟩ | ⟨_, rfl, rfl, a, rfl⟩
      · rw [hy] at h1; simp at h1
      · exact ⟨a, 0, rfl, by simp, .inl (by simp)⟩
  · -- the cells that are frozen
    have hcell : ∀ o, w.cell? ⟨b, o, none⟩ = cs[o]? := fun o => by simp [World.cell?, h2]
    refine ⟨fun b' o => if b' = b ∧ o < xs.length * z then cs[o]? else I b' o, ?_, ?_, ?_⟩
    · have hm : ∀ b' o v, I b' o = some v → (if b' = b ∧ o < xs.length * z then cs[o]? else I b' o) = some v := by
        intro b' o v hv
        split
        · rename_i hc
          obtain ⟨rfl, _⟩ := hc
          rw [← hcell o]
          exact hi.imm _ _ _ hv
        · exact hv
      refine ⟨fun b' o v hv => ?_, fun t' k' hk' => ?_, fun t' x hx => ?_, hi.inj⟩
      · split at hv
        · rename_i hc
          obtain ⟨rfl, _⟩ := hc
          rw [hcell o]; exact hv
        · exact hi.imm _ _ _ hv
      · by_cases e : t' = t
        · subst e
          rw [List.getElem?_set_self hlt] at hk'
          simp at hk'
          subst hk'
          simp only [BlkR]
          refine .inr ⟨b, cap, cs, _, h1, h2, h3, h4, h5, h6, TRl.mono hm _ _ h7, fun o ho => ?_⟩
          rcases ho with ho | ho
          · cases ho
          · rw [if_neg (by omega)]; exact h8 o (.inr ho)
        · rw [List.getElem?_set_ne (Ne.symm e)] at hk'
          refine BlkR.mono (Keeps.refl β) hm (hi.blk t' k' hk') (fun _ _ => rfl) (fun x o hx ho => ?_)
          rw [if_neg]
          · exact ho
          · rintro ⟨hb', _⟩
            exact e (hi.inj t' t x _ hx h1 hb')
      · obtain ⟨k', h2, h3⟩ := hi.live t' x hx
        by_cases e : t' = t
        · subst e; exact ⟨_, List.getElem?_set_self hlt, h3⟩
        · exact ⟨k', by rw [List.getElem?_set_ne (Ne.symm e)]; exact h2, h3⟩
    · refine ⟨rfl, rfl, rfl, Nat.le_refl _, fun _ _ _ => rfl, fun b' o v hv => ?_, fun b' o v hv => ?_, fun t x h => .inl ⟨t, x, h, rfl⟩⟩
      · split
        · rename_i hc
          obtain ⟨rfl, _⟩ := hc
          rw [← hcell o]
          exact hi.imm _ _ _ hv
        · exact hv
      · split at hv
        · rename_i hc
          exact .inr (.inl ⟨t, _, h1, hc.1.symm⟩)
        · exact .inl hv
    · intro off len c hle hx
      have hm : ∀ b' o v, I b' o = some v → (if b' = b ∧ o < xs.length * z then cs[o]? else I b' o) = some v := by
        intro b' o v hv
        split
        · rename_i hc
          obtain ⟨rfl, _⟩ := hc
          rw [← hcell o]
          exact hi.imm _ _ _ hv
        · exact hv
      have hlen : ((xs.drop off).take len).length = len := by simp; omega
      simp only [VR] at hx
      simp only [TR]
      rcases hx with ⟨y, hy, ⟨hcap, rfl⟩ | ⟨rfl, hcap, a, rfl⟩⟩ | ⟨hy, _⟩
      · rw [h1] at hy
        simp at hy
        subst hy
        refine ⟨_, _, by rw [hlen], by rw [hlen]; simp at hcap ⊢; omega, .inr ⟨b, off * z, rfl, ?_⟩⟩
        refine TRrows.of_cells (fun r hr => h6 r (List.mem_of_mem_drop (List.mem_of_mem_take hr))) ?_
        have h9 := (h7.drop (off * z)).take (len * z)
        rw [flatten_drop off h6, flatten_take len (fun r hr => h6 r (List.mem_of_mem_drop hr))] at h9
        refine TRcells.of_list (TRl.mono hm _ _ h9) fun j u hu => ?_
        have hj : j < len * z := by
          rcases Nat.lt_or_ge j (len * z) with h | h
          · exact h
          · rw [List.getElem?_take, if_neg (by omega)] at hu; simp at hu
        rw [List.getElem?_take, if_pos hj, List.getElem?_drop, List.getElem?_take] at hu
        have : (off + len) * z ≤ xs.length * z := Nat.mul_le_mul_right _ hle
        rw [Nat.add_mul] at this
        rw [if_pos (by omega)] at hu
        rw [if_pos ⟨rfl, by omega⟩]
        simpa using hu
      · exact ⟨a, 0, by simp, by simp, .inl (by simp)⟩
      · rw [h1] at hy; simp at hy
theorem frz1_sound (hi : Inv β I σ w) {v : V} {t : T} {σ' : List Blk} {c : Value} (h : frz1 σ v = some (t, σ')) (hx : VR β I v c) : ∃ I', Inv β I' σ' w ∧ Step β I w β I' w ∧ TR I' t c := by
  unfold frz1 at h
  split at h
  · simp at h; obtain ⟨rfl, rfl⟩ := h; exact ⟨I, hi, Step.refl _ _ _, by simpa [VR, TR] using hx⟩
  · simp at h; obtain ⟨rfl, rfl⟩ := h; exact ⟨I, hi, Step.refl _ _ _, by simpa [VR] using hx⟩
  · simp at h; obtain ⟨rfl, rfl⟩ := h; refine ⟨I, hi, Step.refl _ _ _, ?_⟩
    simp only [VR] at hx
    obtain ⟨a, rfl⟩ := hx
    simp only [TR]
    exact ⟨a, 0, rfl, by simp, .inl trivial⟩
  · rename_i tag off len
    split at h
    · rename_i z xs ro hk
      split at h
      · rename_i hle
        simp at h
        obtain ⟨rfl, rfl⟩ := h
        obtain ⟨I', h1, h2, h3⟩ := hi.freeze hk
        exact ⟨I', h1, h2, h3 off len c hle hx⟩
      · simp at h
    · simp at h
  · simp at h
theorem frz_sound : ∀ {vs : List V} {σ : List Blk} {I : Imm} {ts : List T} {σ' : List Blk} {cs : List Value}, Inv β I σ w → frz σ vs = some (ts, σ') → VRs β I vs cs → ∃ I', Inv β I' σ' w ∧ Step β I w β I' w ∧ TRl I' ts cs
  | [], σ, I, ts, σ', cs, hi, h, hx => by
    simp [frz] at h
    obtain ⟨rfl, rfl⟩ := h
    cases cs with
    | nil => exact ⟨I, hi, Step.refl _ _ _, by simp [TRl]⟩
    | cons => simp [VRs] at hx
  | v :: vs, σ, I, ts, σ', cs, hi, h, hx => by
    cases cs with
    | nil => simp [VRs] at hx
    | cons c cs =>
      simp only [VRs] at hx
      simp only [frz] at h
      split at h
      · rename_i t σ1 h1
        split at h
        · rename_i ts' σ2 h2
          simp at h
          obtain ⟨rfl, rfl⟩ := h
          obtain ⟨I1, i1, s1, t1⟩ := frz1_sound hi h1 hx.1
          obtain ⟨I2, i2, s2, t2⟩ := frz_sound i1 h2 (VRs.mono (Keeps.refl β) s1.mono hx.2)
          exact ⟨I2, i2, s1.trans s2, by simp only [TRl]; exact ⟨TR.mono s2.mono _ _ t1, t2⟩⟩
        · simp at h
      · simp at h
/-! ### New blocks -/
theorem alloc_old (w : World) (o : Obj) {b : Nat} (h : b < w.heap.size) : (w.alloc o).heap[b]? = w.heap[b]? := by
  show (w.heap.push o)[b]? = _
  rw [Array.getElem?_push, if_neg (by omega)]
theorem alloc_new (w : World) (o : Obj) : (w.alloc o).heap[w.heap.size]? = some o := by
  show (w.heap.push o)[w.heap.size]? = _
  simp
theorem Inv.new (hi : Inv β I σ w) (k : Blk) (x : Bl) (cs : Array Value) (e : TypeId) (hx : x.b = w.heap.size) (hb : ∀ β' : Nat → Option BV, β' σ.length = some (.real x) → Keeps [] β β' → BlkR β' I (w.alloc (.cells cs e)) σ.length k) :
    Inv (ext β σ.length (.real x)) I (σ ++ [k]) (w.alloc (.cells cs e)) ∧ Step β I w (ext β σ.length (.real x)) I (w.alloc (.cells cs e)) := by
  have hh : ∀ b, b < w.heap.size → (w.alloc (.cells cs e)).heap[b]? = w.heap[b]? := fun b hb => alloc_old w _ hb
  refine ⟨hi.push (by simp) hh k _ (fun y hy => ?_) (hb _ (by simp) (Keeps.ext (hi.none_ge (Nat.le_refl _)))), Step.push (w' := w.alloc (.cells cs e)) hi rfl rfl rfl (by simp) hh _ (fun y hy => ?_)⟩
  · injection hy with hy; subst hy; simp [hx]
  · injection hy with hy; subst hy; simp [hx]
theorem Imm.none_new (hi : Inv β I σ w) (o : Nat) : I w.heap.size o = none := by
  cases h : I w.heap.size o with
  | none => rfl
  | some v => have := hi.ilt h; omega
theorem box_sound (hi : Inv β I σ w) {cells : List V} {cs : Array Value} (hc : VRs β I cells cs.toList) (e : TypeId) :
    Inv (ext β σ.length (.real ⟨w.heap.size, 1, cells.length⟩)) I (σ ++ [.box cells false]) (w.alloc (.cells cs e)) ∧ Step β I w (ext β σ.length (.real ⟨w.heap.size, 1, cells.length⟩)) I (w.alloc (.cells cs e)) := by
  refine hi.new _ _ cs e rfl fun β' h1 h2 => ?_
  simp only [BlkR]
  exact ⟨w.heap.size, cs, e, h1, alloc_new w _, VRs.mono h2 (fun _ _ _ h => h) hc, fun o _ => Imm.none_new hi o⟩
theorem aalloc_sound (hi : Inv β I σ w) {e : TypeId} {cells : List V} (h : (zeroV P e).bind V.cells? = some cells) (old : Value) : Gives P (Instr.alloc e true old) β I w (.ptr σ.length 0 0) (σ ++ [.box cells false]) [] := by
  rw [Option.bind_eq_some_iff] at h
  obtain ⟨z, h1, h2⟩ := h
  obtain ⟨c, h3, h4, _⟩ := zeroV_run (β := β) (I := I) h1 w
  obtain ⟨i1, s1⟩ := box_sound hi (h4.cells h2) e
  refine ⟨.pointer (some ⟨w.heap.size, 0, none⟩), w.alloc (.cells c.cells e), ext β σ.length (.real ⟨w.heap.size, 1, cells.length⟩), I, ?_, ?_, i1, s1, Keeps.ext (hi.none_ge (Nat.le_refl _))⟩
  · simp [Instr.alloc, h3, newVar, newRow]
  · simp only [VR]; exact ⟨_, ext_self _ _ _, by simp⟩
theorem abox_sound (hi : Inv β I σ w) {e : TypeId} {v : V} {c : Value} {cells : List V} (h : v.cells? = some cells) (hx : VR β I v c) : Gives P (Instr.box e c) β I w (.ptr σ.length 0 0) (σ ++ [.box cells false]) [] := by
  obtain ⟨i1, s1⟩ := box_sound hi (hx.cells h) e
  refine ⟨.pointer (some ⟨w.heap.size, 0, none⟩), w.alloc (.cells c.cells e), ext β σ.length (.real ⟨w.heap.size, 1, cells.length⟩), I, ?_, ?_, i1, s1, Keeps.ext (hi.none_ge (Nat.le_refl _))⟩
  · simp [Instr.box, newVar, newRow]
  · simp only [VR]; exact ⟨_, ext_self _ _ _, by simp⟩
/-! ### Stores -/
theorem setL_take {α : Type} {l vs : List α} {o n : Nat} (h : o + vs.length ≤ n) (ho : o ≤ l.length) : (setL l o vs).take n = setL (l.take n) o vs := by
  unfold setL
  rw [List.append_assoc, List.append_assoc, List.take_append, List.take_append, List.length_take, Nat.min_eq_left ho, List.take_take, List.take_take, List.drop_take, Nat.min_eq_right (by omega : o ≤ n), Nat.min_eq_left (by omega : o ≤ n)]
  congr 2
  · exact List.take_of_length_le (by omega)
  · congr 1
    omega
theorem setL_length {α : Type} {l vs : List α} {o : Nat} (h : o + vs.length ≤ l.length) : (setL l o vs).length = l.length := by
  unfold setL
  simp
  omega
theorem flatten_set {α : Type} {z : Nat} : ∀ {xs : List (List α)} {i : Nat} {r : List α} {o : Nat} {vs : List α}, (∀ r ∈ xs, r.length = z) → xs[i]? = some r → o + vs.length ≤ r.length →
    (xs.set i (setL r o vs)).flatten = setL xs.flatten (i * z + o) vs
  | [], i, r, o, vs, _, h, _ => by simp at h
  | x :: xs, 0, r, o, vs, hz, h, hle => by
    simp at h
    subst h
    simp only [List.set_cons_zero, List.flatten_cons, Nat.zero_mul, Nat.zero_add, setL]
    rw [List.take_append_of_le_length (by omega), List.drop_append_of_le_length (by omega)]
    simp
  | x :: xs, i + 1, r, o, vs, hz, h, hle => by
    simp at h
    have hx := hz x (by simp)
    have ih := flatten_set (o := o) (vs := vs) (fun r hr => hz r (by simp [hr])) h hle
    simp only [List.set_cons_succ, List.flatten_cons]
    rw [ih]
    unfold setL
    rw [show (i + 1) * z + o = x.length + (i * z + o) by rw [hx, Nat.add_mul]; omega]
    rw [List.take_length_add_append, show x.length + (i * z + o) + vs.length = x.length + (i * z + o + vs.length) by omega, List.drop_length_add_append]
    simp
theorem atoms_one : ∀ {vs : List V} {cs : List Value}, vs.all V.atom = true → VRs β I vs cs → ∀ c ∈ cs, c.oneCell' = true
  | [], [], _, _ => by simp
  | v :: vs, c :: cs, h, k => by
    simp only [VRs] at k
    simp only [List.all_cons, Bool.and_eq_true] at h
    intro c' hc
    rcases List.mem_cons.1 hc with rfl | hc
    · exact k.1.one h.1
    · exact atoms_one h.2 k.2 c' hc
  | [], _ :: _, _, h => by simp [VRs] at h
  | _ :: _, [], _, h => by simp [VRs] at h
theorem astore_sound (hi : Inv β I σ w) {t : TypeId} {a x : V} {ac xc : Value} {σ' : List Blk} (h : astore P σ t a x = some σ') (ha : VR β I a ac) (hx : VR β I x xc) :
    ∃ w' I', (Instr.storeAt t ac xc).run P w = .ok () w' ∧ Inv β I' σ' w' ∧ Step β I w β I' w' := by
  unfold astore at h
  split at h
  · rename_i tag i o vs hcells
    split at h
    · simp at h
    · rename_i hcond
      simp only [not_or, Bool.not_eq_false] at hcond
      obtain ⟨hknown, hlen, hatom⟩ := hcond
      simp at hlen
      have hu : ∃ d, P.underlying t = some d := by
        cases hd : P.underlying t with
        | none => simp [hd] at hknown
        | some d => exact ⟨d, rfl⟩
      obtain ⟨d, hu⟩ := hu
      have hcs := hx.cells hcells
      have hcl := hcs.length
      have hone := atoms_one hatom hcs
      simp only [VR] at ha
      obtain ⟨y, hy, rfl⟩ := ha
      have hsz : xc.cells.size = P.cellsOf t := by rw [← hlen, hcl, Array.length_toList]
      -- the store, wherever its block lies
      have hrun : ∀ (w1 : World) (cur : Array Value) (e : TypeId), w1.heap[y.b]? = some (.cells cur e (0, 0)) → i * y.z + o + vs.length ≤ cur.size →
          (Instr.storeAt t (.pointer (some ⟨y.b, i * y.z + o, none⟩)) xc).run P w1 = .ok () (w1.setRow y.b (setL cur.toList (i * y.z + o) xc.cells.toList).toArray) := by
        intro w1 cur e hg hle
        have := run_storeCells_at (P := P) y.b (i * y.z + o) e xc.cells.toList 0 cur w1 hg (by rw [← hcl]; omega) hone
        simp only [Instr.storeAt, Instr.sureAddr, storeVar, Sem.run_bind, Sem.run_pure, Result.andThen_ok, run_siz hu, hsz, ne_eq, not_true_eq_false, if_false, this, Nat.add_zero]
        rfl
      split at h
      · rename_i cells hk
        split at h
        · rename_i hc
          obtain ⟨rfl, hle⟩ := hc
          simp at h
          subst h
          have hb := hi.blk tag _ hk
          simp only [BlkR] at hb
          obtain ⟨b, cs, e, h1, h2, h3, h4⟩ := hb
          rw [hy] at h1
          simp at h1
          subst h1
          have hcsl : cs.size = cells.length := by rw [h3.length, Array.length_toList]
          refine ⟨_, I, hrun w cs e h2 (by simp; omega), ?_, ?_⟩
          · refine hi.upd hy (by simp) (fun b' _ hne => setRow_other w b b' _ hne) (fun o' v hv => ?_) _ ?_
            · rw [h4 o' (.inl (by simp))] at hv; cases hv
            · simp only [BlkR]
              have hl : (setL cells o vs).length = cells.length := setL_length hle
              refine ⟨b, _, e, by rw [hl]; exact hy, setRow_heap w b cs _ e (0, 0) h2, ?_, fun o' _ => h4 o' (.inl (by simp))⟩
              simp only [Nat.zero_mul, Nat.zero_add]
              exact h3.setL hcs o
          · exact Step.upd hy rfl rfl rfl (by simp) (fun b' _ hne => setRow_other w b b' _ hne)
        · simp at h
      · rename_i hk0
        split at h
        · rename_i ts σ1 hf
          obtain ⟨I1, hi1, hs1, ht1⟩ := frz_sound hi hf hcs
          split at h
          · rename_i z xs hk
            split at h
            · rename_i r hr
              split at h
              · rename_i hle
                simp at h
                subst h
                have hb := hi1.blk tag _ hk
                simp only [BlkR] at hb
                rcases hb with ⟨_, rfl⟩ | ⟨b, cap, cs, e, h1, h2, h3, h4, h5, h6, h7, h8⟩
                · simp at hr
                rw [hy] at h1
                simp at h1
                subst h1
                have hri := (List.getElem?_eq_some_iff.1 hr).1
                have hrl : r.length = z := h6 r (List.mem_of_getElem? hr)
                have htl : ts.length = vs.length := by rw [ht1.length, ← hcl]
                have hbnd : i * z + o + vs.length ≤ xs.length * z := by
                  have : (i + 1) * z ≤ xs.length * z := Nat.mul_le_mul_right _ hri
                  rw [Nat.add_mul] at this
                  omega
                have hcap : xs.length * z ≤ cap * z := Nat.mul_le_mul_right _ h4
                refine ⟨_, I1, hrun w cs e h2 (by simp; omega), ?_, hs1.trans ?_⟩
                · refine hi1.upd hy (by simp) (fun b' _ hne => setRow_other w b b' _ hne) (fun o' v hv => ?_) _ ?_
                  · rw [h8 o' (.inl (by simp))] at hv; cases hv
                  · simp only [BlkR]
                    refine .inr ⟨b, cap, _, e, hy, setRow_heap w b cs _ e (0, 0) h2, ?_, by simpa using h4, h5, fun r' hr' => ?_, ?_, fun o' _ => h8 o' (.inl (by simp))⟩
                    · have e2 : cs.toList.length = cap * z := by rw [Array.length_toList, h3]
                      have e1 : i * z + o + xc.cells.toList.length ≤ cs.toList.length := by rw [e2]; omega
                      simp only [List.size_toArray]
                      rw [setL_length e1, Array.length_toList, h3]
                    · rcases List.mem_or_eq_of_mem_set hr' with hr' | rfl
                      · exact h6 r' hr'
                      · rw [setL_length hle]; exact hrl
                    · rw [flatten_set h6 hr hle]
                      simp only [List.length_set]
                      rw [setL_take (by rw [← hcl]; exact hbnd) (by rw [Array.length_toList, h3]; omega)]
                      exact h7.setL ht1 _
                · exact Step.upd hy rfl rfl rfl (by simp) (fun b' _ hne => setRow_other w b b' _ hne)
              · simp at h
            · simp at h
          · simp at h
        · simp at h
      · simp at h
  · simp at h
end
end Go.Ai

set_option linter.unusedVariables false
set_option linter.unusedSimpArgs false
namespace Go.Ai
section
variable {P : Program} {β : Nat → Option BV} {I : Imm} {w : World} {σ : List Blk}
/-! ### A string's bytes -/
theorem bytesTRl (I : Imm) : ∀ l : List UInt8, TRl I (l.map fun b => [T.s (.int .u8 (b.toNat : Int))]).flatten (l.map fun b => Value.int .u8 (b.toNat : Int))
  | [] => by simp [TRl]
  | b :: l => by simp only [List.map_cons, List.flatten_cons, List.cons_append, List.nil_append, TRl, TR]; exact ⟨⟨trivial, rfl⟩, bytesTRl I l⟩
theorem bytes_sound (hi : Inv β I σ w) {src dst e : TypeId} {sd : TypeDesc} (hs : P.underlying src = some sd) (hd : P.underlying dst = some (.slice e)) (he : P.underlying e = some (.int .u8)) (s : ByteArray) :
    Gives P (Go.convert src dst (.string s)) β I w (.sl 1 (s.data.toList.map fun b => [T.s (.int .u8 b.toNat)])) σ [] := by
  have hn : ∀ o, I w.heap.size o = none := Imm.none_new hi
  have hold : ∀ b, b < w.heap.size → (Lib.bytesWorld w e s).heap[b]? = w.heap[b]? := fun b hb => Lib.bytesWorld_at_old w e s b hb
  have hsz := Lib.bytesWorld_size w e s
  have hm : ∀ b o v, I b o = some v → (if b = w.heap.size ∧ o < s.size then some (.int .u8 ((s.data.toList.getD o 0).toNat : Int)) else I b o) = some v := by
    intro b o v hv
    rw [if_neg]
    · exact hv
    · rintro ⟨rfl, _⟩; rw [hn] at hv; cases hv
  refine ⟨_, _, β, fun b o => if b = w.heap.size ∧ o < s.size then some (.int .u8 ((s.data.toList.getD o 0).toNat : Int)) else I b o, Lib.run_convert_string_bytes w src dst e s hs hd he, ?_, ?_, ?_, Keeps.refl β⟩
  · have hl : s.data.toList.length = s.size := by rw [Array.length_toList]; rfl
    simp only [VR, TR, List.length_map]
    refine ⟨_, _, by rw [hl], by rw [hl]; exact grownCap_ge _ _ _ _, .inr ⟨w.heap.size, 0, rfl, ?_⟩⟩
    refine TRrows.of_cells (fun r hr => ?_) ?_
    · simp only [List.mem_map] at hr
      obtain ⟨b, _, rfl⟩ := hr
      rfl
    · refine TRcells.of_list (us := s.data.toList.map fun b => Value.int .u8 (b.toNat : Int)) (bytesTRl _ _) (fun j u hu => ?_)
      · rw [List.getElem?_map, Option.map_eq_some_iff] at hu
        obtain ⟨b, hb, rfl⟩ := hu
        have hj := (List.getElem?_eq_some_iff.1 hb).1
        rw [if_pos ⟨rfl, by omega⟩]
        simp [List.getD_eq_getElem?_getD, hb]
  · refine ⟨fun b o v hv => ?_, fun t k hk => ?_, fun t x hx => ?_, hi.inj⟩
    · split at hv
      · rename_i hc
        obtain ⟨rfl, hc⟩ := hc
        rw [Lib.bytesWorld_cell w e s o hc]
        exact hv
      · rw [cell_of_heap (hold b (hi.ilt hv))]; exact hi.imm b o v hv
    · refine BlkR.mono (Keeps.refl β) hm (hi.blk t k hk) (fun x hx => hold _ (hi.blt hx)) (fun x o hx ho => ?_)
      rw [if_neg]
      · exact ho
      · rintro ⟨h, _⟩; have := hi.blt hx; omega
    · obtain ⟨k, h1, h2⟩ := hi.live t x hx
      exact ⟨k, h1, fun y hy => by have := h2 y hy; omega⟩
  · refine ⟨rfl, rfl, rfl, by omega, fun b hb _ => hold b hb, hm, fun b o v hv => ?_, fun t x hx => .inl ⟨t, x, hx, rfl⟩⟩
    split at hv
    · rename_i hc
      exact .inr (.inr (by omega))
    · exact .inl hv
/-! ### append -/
theorem cell_drew (w : World) (a : Addr) : w.drew.cell? a = w.cell? a := rfl
theorem src_run {z size : Nat} {ys : List (List T)} {c : Value} (h : Src I w z ys c) (hz : z = size ∨ ys = []) :
    ∃ us, TRl I ys.flatten us ∧ us.length = ys.length * size ∧ (Builtin.lenOf c).run P w = .ok ys.length w ∧ (∀ w', (∀ a, w'.cell? a = w.cell? a) → (Builtin.firstCells size ys.length c).run P w' = .ok us.toArray w') := by
  rcases h with ⟨s, rfl, rfl, rfl⟩ | ⟨a, cap, rfl, h⟩
  · have hl : s.data.toList.length = s.size := by rw [Array.length_toList]; rfl
    have hz : size = 1 ∨ s.data.toList = [] := by
      rcases hz with hz | hz
      · exact .inl hz.symm
      · right; simpa using hz
    refine ⟨s.data.toList.map fun b => Value.int .u8 (b.toNat : Int), bytesTRl _ _, ?_, ?_, ?_⟩
    · rcases hz with rfl | hz
      · simp
      · simp [hz]
    · simp [Builtin.lenOf]
    · intro w' _
      have := Lib.run_firstCells_string (P := P) w' size s
      simpa [Lib.strCells] using this
  · rcases h with rfl | ⟨b, o, us, rfl, h1, h2, h3⟩
    · refine ⟨[], by simp [TRl], by simp, by simp [Builtin.lenOf], fun w' _ => ?_⟩
      cases a with
      | none => simp [Builtin.firstCells]
      | some a => simp [Builtin.firstCells, loadCells, loadCellsFrom]
    · have hl : us.length = ys.length * z := by rw [← h2.length, flatten_len h1]
      rcases hz with rfl | rfl
      · refine ⟨us, h2, hl, by simp [Builtin.lenOf], fun w' hw => ?_⟩
        have := run_loadCells_list (P := P) w' ⟨b, o, none⟩ us (fun j v hv => by rw [addr_add, hw]; exact h3 j v hv)
        rw [hl] at this
        simp [Builtin.firstCells, this]
      · have : us = [] := List.eq_nil_of_length_eq_zero (by simpa using hl)
        subst this
        exact ⟨[], by simp [TRl], by simp, by simp [Builtin.lenOf], fun w' _ => by simp [Builtin.firstCells, loadCells, loadCellsFrom]⟩
section
variable {t u e : TypeId} {ud : TypeDesc} {ty : TypeId}
set_option maxHeartbeats 4000000 in
theorem append_room (ht : P.underlying t = some (.slice e)) (hsz : ∀ w, (sizeOf e).run P w = .ok (P.cellsOf e) w) (hu : P.underlying u = some ud) (hui : isIntD ud = false) {n : Nat} {us : List Value}
    (base : Option Addr) (len cap : Nat) (c : Value) (w : World) (h3 : (Builtin.lenOf c).run P w = .ok n w) (h4 : (Builtin.firstCells (P.cellsOf e) n c).run P w = .ok us.toArray w) (hroom : len + n ≤ cap) :
    (Builtin.append_ #[t, u] ty #[.slice base len cap, c]).run P w = ((match base with | some a => storeCells (a.add (len * P.cellsOf e)) us | none => Pure.pure ()).run P w).andThen fun _ w' => .ok (.slice base (len + n) cap) w' := by
  cases base <;> cases ud <;> first
    | (simp [isIntD] at hui; done)
    | (simp only [Builtin.append_, List.getElem?_toArray, List.getElem?_cons_zero, List.getElem?_cons_succ, Sem.run_bind, run_und ht, run_und hu, Result.andThen_ok, hsz, Sem.run_pure, Bool.false_eq_true, if_false, Bool.not_false, if_true, h3, h4, hroom]
       done)
set_option maxHeartbeats 4000000 in
theorem append_grow (ht : P.underlying t = some (.slice e)) (hsz : ∀ w, (sizeOf e).run P w = .ok (P.cellsOf e) w) (hu : P.underlying u = some ud) (hui : isIntD ud = false) {i : TypeInfo} {zv : Value} (hi : ∀ w, (typeInfo e).run P w = .ok i w)
    (hz : ∀ w, (zeroValue e).run P w = .ok zv w) {n : Nat} {us olds : List Value} (base : Option Addr) (len cap : Nat) (c : Value) (w : World) (h3 : (Builtin.lenOf c).run P w = .ok n w) (h4 : (Builtin.firstCells (P.cellsOf e) n c).run P w.drew = .ok us.toArray w.drew)
    (hold : (Builtin.firstCells (P.cellsOf e) len (.slice base len cap)).run P w.drew = .ok olds.toArray w.drew) (hroom : ¬ len + n ≤ cap) (hb0 : i.bytes ≠ 0) (hfit : ¬ Builtin.nextslicecap (len + n) cap * i.bytes > 2 ^ 48) :
    (Builtin.append_ #[t, u] ty #[.slice base len cap, c]).run P w = .ok (.slice (some ⟨w.heap.size, 0, none⟩) (len + n) (grownCap w (len + n) cap e))
      (w.drew.alloc (.cells (olds.toArray ++ us.toArray ++ Builtin.zeroCells zv.cells (grownCap w (len + n) cap e - (len + n))) e)) := by
  have hcut : (Question.appendCap (len + n) cap e).cut (w.tape w.drawn (Question.appendCap (len + n) cap e)) = grownCap w (len + n) cap e := rfl
  have hch : (choose (Question.appendCap (len + n) cap e)).run P w = .ok (grownCap w (len + n) cap e) w.drew := by simp [Question.forced, hcut]
  cases ud <;> first
    | (simp [isIntD] at hui; done)
    | (simp only [Builtin.append_, List.getElem?_toArray, List.getElem?_cons_zero, List.getElem?_cons_succ, Sem.run_bind, run_und ht, run_und hu, Result.andThen_ok, hsz, Sem.run_pure, Bool.false_eq_true, if_false, Bool.not_false, if_true, h3, h4, hold, hroom, hi, hz, hb0, hfit, hch,
         and_false, or_false, false_or, run_askRoom, newRow, run_newObj]
       rfl)
end
end
end Go.Ai
