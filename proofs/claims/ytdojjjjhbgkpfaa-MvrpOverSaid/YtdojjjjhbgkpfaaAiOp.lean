/- An interpreter of the language over data, and the proof that what it answers is what the machine does; no condition. -/
import Derived.Test.YtdojjjjhbgkpfaaAiInv
set_option linter.unusedVariables false
set_option linter.unusedSimpArgs false
namespace Go.Ai
section
variable {P : Program} {β : Nat → Option BV} {I : Imm} {w : World} {σ : List Blk}
theorem info_of {t : TypeId} {d : TypeDesc} (h : P.underlying t = some d) : ∃ i, P.info? t = some i := by
  unfold Program.underlying at h
  split at h
  · rename_i h'; exact ⟨_, h'⟩
  · rename_i i _ h'; exact ⟨i, h'⟩
  · simp at h
theorem run_und {t : TypeId} {d : TypeDesc} (h : P.underlying t = some d) (w : World) : (underlying t).run P w = .ok d w := by simp [underlying, h]
theorem run_siz {t : TypeId} {d : TypeDesc} (h : P.underlying t = some d) (w : World) : (sizeOf t).run P w = .ok (P.cellsOf t) w := by
  obtain ⟨i, hi⟩ := info_of h
  simp [sizeOf, typeInfo, hi, Program.cellsOf]
theorem und_of_isAgg {t : TypeId} {b : Bool} (h : isAgg P t = some b) : ∃ d, P.underlying t = some d := by
  unfold isAgg at h
  split at h
  · exact ⟨_, ‹_›⟩
  · exact ⟨_, ‹_›⟩
  · exact ⟨_, ‹_›⟩
  · simp at h
theorem run_isAgg' {t : TypeId} {b : Bool} (h : isAgg P t = some b) (w : World) : (Go.isAgg t).run P w = .ok b w := by
  unfold isAgg at h
  split at h
  · rename_i hu; simp at h; subst h; simp [Go.isAgg, run_und hu]
  · rename_i hu; simp at h; subst h; simp [Go.isAgg, run_und hu]
  · rename_i d hu; simp at h; subst h
    simp only [Go.isAgg, Sem.run_bind, run_und hu, Result.andThen_ok]
    first | rfl | (split <;> simp_all)
  · simp at h
theorem scalar_one {v : Value} (h : scalar v = true) : v.oneCell' = true := by cases v <;> simp_all [scalar, Value.oneCell']
theorem cells_one {v : Value} (h : v.oneCell' = true) : v.cells = #[v] := by cases v <;> simp_all [Value.cells, Value.oneCell']
theorem TR.one {t : T} {c : Value} (h : TR I t c) : c.oneCell' = true := by
  cases t with
  | s v => simp only [TR] at h; obtain ⟨rfl, h⟩ := h; exact scalar_one h
  | sl z rows => simp only [TR] at h; obtain ⟨a, cap, rfl, _⟩ := h; rfl
theorem TRl.ones : ∀ {ts : List T} {cs : List Value}, TRl I ts cs → ∀ c ∈ cs, c.oneCell' = true
  | [], [], _ => by simp
  | t :: ts, c :: cs, h => by
    simp only [TRl] at h
    intro c' hc
    rcases List.mem_cons.1 hc with rfl | hc
    · exact h.1.one
    · exact TRl.ones h.2 c' hc
  | [], _ :: _, h => by simp [TRl] at h
  | _ :: _, [], h => by simp [TRl] at h
theorem VR.one {v : V} {c : Value} (h : VR β I v c) (ha : v.atom = true) : c.oneCell' = true := by
  cases v with
  | s v => simp only [VR] at h; obtain ⟨rfl, h⟩ := h; exact scalar_one h
  | sl z rows => simp only [VR] at h; exact h.one
  | emp => simp only [VR] at h; obtain ⟨a, rfl⟩ := h; rfl
  | own t off len => simp only [VR] at h; rcases h with ⟨x, _, ⟨_, rfl⟩ | ⟨_, _, a, rfl⟩⟩ | ⟨_, _, _, a, rfl⟩ <;> rfl
  | win t off len z => simp only [VR] at h; obtain ⟨x, a, cap, _, _, rfl, _⟩ := h; rfl
  | ptr t i o => simp only [VR] at h; obtain ⟨x, _, rfl⟩ := h; rfl
  | mref t => simp only [VR] at h; obtain ⟨x, _, rfl⟩ := h; rfl
  | iref cs => simp only [VR] at h; obtain ⟨b, o, rfl, _⟩ := h; rfl
  | clo fn a b => simp only [VR] at h; obtain ⟨fv, cv, rfl, _⟩ := h; rfl
  | agg cs => simp [V.atom] at ha
  | tuple cs => simp [V.atom] at ha
  | undef => simp [V.atom] at ha
theorem VR.cells {v : V} {c : Value} {cs : List V} (h : VR β I v c) (hc : v.cells? = some cs) : VRs β I cs c.cells.toList := by
  cases v with
  | agg l => simp only [V.cells?, Option.some.injEq] at hc; subst hc; simp only [VR] at h; obtain ⟨vs, rfl, h⟩ := h; exact h
  | undef => simp [V.cells?] at hc
  | tuple l => simp [V.cells?] at hc
  | s v => simp only [V.cells?, Option.some.injEq] at hc; subst hc; rw [cells_one (h.one rfl)]; simp only [VRs]; exact ⟨h, trivial⟩
  | sl z rows => simp only [V.cells?, Option.some.injEq] at hc; subst hc; rw [cells_one (h.one rfl)]; simp only [VRs]; exact ⟨h, trivial⟩
  | emp => simp only [V.cells?, Option.some.injEq] at hc; subst hc; rw [cells_one (h.one rfl)]; simp only [VRs]; exact ⟨h, trivial⟩
  | own t off len => simp only [V.cells?, Option.some.injEq] at hc; subst hc; rw [cells_one (h.one rfl)]; simp only [VRs]; exact ⟨h, trivial⟩
  | win t off len z => simp only [V.cells?, Option.some.injEq] at hc; subst hc; rw [cells_one (h.one rfl)]; simp only [VRs]; exact ⟨h, trivial⟩
  | ptr t i o => simp only [V.cells?, Option.some.injEq] at hc; subst hc; rw [cells_one (h.one rfl)]; simp only [VRs]; exact ⟨h, trivial⟩
  | mref t => simp only [V.cells?, Option.some.injEq] at hc; subst hc; rw [cells_one (h.one rfl)]; simp only [VRs]; exact ⟨h, trivial⟩
  | iref l => simp only [V.cells?, Option.some.injEq] at hc; subst hc; rw [cells_one (h.one rfl)]; simp only [VRs]; exact ⟨h, trivial⟩
  | clo fn a b => simp only [V.cells?, Option.some.injEq] at hc; subst hc; rw [cells_one (h.one rfl)]; simp only [VRs]; exact ⟨h, trivial⟩
mutual
theorem ofVal_sound : ∀ (c : Value) {v : V}, ofVal c = some v → VR β I v c
  | .agg ⟨cs⟩, v, h => by
    simp only [ofVal, Option.map_eq_some_iff] at h
    obtain ⟨vs, h1, rfl⟩ := h
    simp only [VR]
    exact ⟨_, rfl, ofVals_sound cs h1⟩
  | .tuple ⟨cs⟩, v, h => by
    simp only [ofVal, Option.map_eq_some_iff] at h
    obtain ⟨vs, h1, rfl⟩ := h
    simp only [VR]
    exact ⟨_, rfl, ofVals_sound cs h1⟩
  | .bool b, v, h => by simp only [ofVal] at h; split at h <;> simp at h; subst h; simp_all [VR]
  | .int _ _, v, h => by simp only [ofVal] at h; split at h <;> simp at h; subst h; simp_all [VR]
  | .float _ _, v, h => by simp only [ofVal] at h; split at h <;> simp at h; subst h; simp_all [VR]
  | .complex _ _ _, v, h => by simp only [ofVal] at h; split at h <;> simp at h; subst h; simp_all [VR]
  | .string _, v, h => by simp only [ofVal] at h; split at h <;> simp at h; subst h; simp_all [VR]
  | .pointer _, v, h => by simp only [ofVal] at h; split at h <;> simp at h; subst h; simp_all [VR]
  | .slice _ _ _, v, h => by simp only [ofVal] at h; split at h <;> simp at h; subst h; simp_all [VR]
  | .map _, v, h => by simp only [ofVal] at h; split at h <;> simp at h; subst h; simp_all [VR]
  | .chan _, v, h => by simp only [ofVal] at h; split at h <;> simp at h; subst h; simp_all [VR]
  | .func _ _ _, v, h => by simp only [ofVal] at h; split at h <;> simp at h; subst h; simp_all [VR]
  | .nilFunc, v, h => by simp only [ofVal] at h; split at h <;> simp at h; subst h; simp_all [VR]
  | .iface _ _, v, h => by simp only [ofVal] at h; split at h <;> simp at h; subst h; simp_all [VR]
  | .nilIface, v, h => by simp only [ofVal] at h; split at h <;> simp at h; subst h; simp_all [VR]
theorem ofVals_sound : ∀ (cs : List Value) {vs : List V}, ofVals cs = some vs → VRs β I vs cs
  | [], vs, h => by simp only [ofVals, Option.some.injEq] at h; subst h; simp [VRs]
  | c :: cs, vs, h => by
    simp only [ofVals] at h
    split at h
    · rename_i x xs h1 h2
      simp at h
      subst h
      simp only [VRs]
      exact ⟨ofVal_sound c h1, ofVals_sound cs h2⟩
    · simp at h
end
theorem part_sound {t : TypeId} {cells : List V} {o : Nat} {v : V} {cs : Array Value} (hp : part P t cells o = some v) (hr : VRs β I cells cs.toList) (w : World) :
    ∃ c, (Go.part t cs o).run P w = .ok c w ∧ VR β I v c := by
  unfold part at hp
  split at hp
  · rename_i ha
    obtain ⟨d, hd⟩ := und_of_isAgg ha
    split at hp
    · simp at hp
      subst hp
      refine ⟨.agg (cs.extract o (o + P.cellsOf t)), ?_, ?_⟩
      · simp [Go.part, run_isAgg' ha, run_siz hd]
      · simp only [VR]
        refine ⟨_, rfl, ?_⟩
        have := (hr.drop o).take (P.cellsOf t)
        have e : (cs.extract o (o + P.cellsOf t)).toList = (cs.toList.drop o).take (P.cellsOf t) := by simp [List.extract_eq_take_drop]
        rw [e]
        exact this
    · simp at hp
  · rename_i ha
    obtain ⟨c, hc, hv⟩ := hr.get hp
    refine ⟨c, ?_, hv⟩
    have : cs[o]? = some c := by rw [← Array.getElem?_toList]; exact hc
    simp [Go.part, run_isAgg' ha, this]
  · simp at hp
theorem loadVar_sound {t : TypeId} {cells : List V} {o b off : Nat} {v : V} (hp : part P t cells o = some v) (hr : VRsAt β I w b off cells) :
    ∃ c, (loadVar t ⟨b, off + o, none⟩).run P w = .ok c w ∧ VR β I v c := by
  unfold part at hp
  split at hp
  · rename_i ha
    obtain ⟨d, hd⟩ := und_of_isAgg ha
    split at hp
    · rename_i hle
      simp at hp
      subst hp
      obtain ⟨cs, h1, h2⟩ := ((hr.drop o).take (P.cellsOf t)).list
      have hl : cs.length = P.cellsOf t := by
        rw [← h1.length]; simp; omega
      refine ⟨.agg cs.toArray, ?_, by simp only [VR]; exact ⟨_, rfl, h1⟩⟩
      have hrun := run_loadCells_list (P := P) w ⟨b, off + o, none⟩ cs (fun j v hv => by rw [addr_add]; exact h2 j v hv)
      rw [hl] at hrun
      simp [loadVar, run_isAgg' ha, run_siz hd, hrun]
    · simp at hp
  · rename_i ha
    obtain ⟨c, hc, hv⟩ := hr.get hp
    refine ⟨c, ?_, hv⟩
    simp [loadVar, run_isAgg' ha, hc]
  · simp at hp
theorem aload_sound (hi : Inv β I σ w) {t : TypeId} {a v : V} {x : Value} (h : aload P σ t a = some v) (ha : VR β I a x) :
    ∃ c, (Instr.loadAt t x).run P w = .ok c w ∧ VR β I v c := by
  unfold aload at h
  split at h
  · rename_i tag i o
    rw [Option.bind_eq_some_iff] at h
    obtain ⟨cells, hc, hp⟩ := h
    obtain ⟨y, hy, hat⟩ := hi.cells hc
    simp only [VR] at ha
    obtain ⟨y', hy', rfl⟩ := ha
    obtain rfl : y = y' := by rw [hy] at hy'; injection hy' with e; injection e
    obtain ⟨c, h1, h2⟩ := loadVar_sound hp hat
    exact ⟨c, by simp [Instr.loadAt, Instr.sureAddr, h1], h2⟩
  · rename_i cs
    simp only [VR] at ha
    obtain ⟨b, o, rfl, hcs⟩ := ha
    obtain ⟨c, h1, h2⟩ := loadVar_sound h (TRcells.at_ hi.imm hcs)
    simp only [Nat.add_zero] at h1
    exact ⟨c, by simp [Instr.loadAt, Instr.sureAddr, h1], h2⟩
  · simp at h
/-! ### Data out of values -/
theorem scalTs_sound : ∀ {vs : List V} {ts : List T} {cs : List Value}, scalTs vs = some ts → VRs β I vs cs → TRl I ts cs
  | [], ts, [], h, _ => by simp [scalTs] at h; subst h; simp [TRl]
  | v :: vs, ts, c :: cs, h, k => by
    simp only [scalTs] at h
    simp only [VRs] at k
    split at h
    · rename_i x xs h1 h2
      simp at h
      subst h
      simp only [TRl]
      refine ⟨?_, scalTs_sound h2 k.2⟩
      cases v <;> simp [scalT] at h1
      · subst h1; simpa [VR, TR] using k.1
      · subst h1; simpa [VR] using k.1
    · simp at h
  | [], _, _ :: _, _, k => by simp [VRs] at k
  | _ :: _, _, [], _, k => by simp [VRs] at k
end
end Go.Ai
