/- An interpreter of the language over data, and the proof that what it answers is what the machine does; no condition. -/
import Derived.Test.YtdojjjjhbgkpfaaAiS6
set_option linter.unusedVariables false
set_option linter.unusedSimpArgs false
namespace Go.Ai
section
variable {P : Program} {β : Nat → Option BV} {I : Imm} {w : World} {σ : List Blk}
structure AppendOK (P : Program) (t u e : TypeId) (ud : TypeDesc) : Prop where
  ht : P.underlying t = some (.slice e)
  hu : P.underlying u = some ud
  hui : isIntD ud = false
  hz : 0 < P.cellsOf e
  hby : 0 < P.bytesOf e
  hzok : zok P e = true
theorem zok_zero {e : TypeId} (h : zok P e = true) : ∃ i zv, P.info? e = some i ∧ (∀ w, (zeroValue e).run P w = .ok zv w) ∧ zv.cells.size = P.cellsOf e ∧ P.bytesOf e = i.bytes := by
  unfold zok at h
  cases hzi : (P.info? e).bind (·.zero) with
  | none => simp [hzi] at h
  | some zv =>
    simp only [hzi, beq_iff_eq] at h
    obtain ⟨i, hi, hz0⟩ := Option.bind_eq_some_iff.1 hzi
    exact ⟨i, zv, hi, fun w' => by simp [zeroValue, typeInfo, hi, hz0], h, by simp [Program.bytesOf, hi]⟩
/-- A new row behind 'append'. -/
theorem append_new {t u e : TypeId} {ud : TypeDesc} {ty : TypeId} (A : AppendOK P t u e ud) {z : Nat} {ys xs : List (List T)} {c : Value} (hsrc : Src I w z ys c) (hzz : z = P.cellsOf e ∨ ys = []) (base : Option Addr) (len cap : Nat) {olds : List Value}
    (hold : (Builtin.firstCells (P.cellsOf e) len (.slice base len cap)).run P w.drew = .ok olds.toArray w.drew) (hox : TRl I xs.flatten olds) (hol : olds.length = len * P.cellsOf e) (hroom : ¬ len + ys.length ≤ cap) (hb : (len + ys.length) * P.bytesOf e ≤ 140737488355328) :
    ∃ cells : Array Value, ∃ newCap, len + ys.length ≤ newCap ∧ newCap ≤ maxLen ∧ cells.size = newCap * P.cellsOf e ∧ TRl I (xs ++ ys).flatten (cells.toList.take ((len + ys.length) * P.cellsOf e)) ∧
      (Builtin.append_ #[t, u] ty #[.slice base len cap, c]).run P w = .ok (.slice (some ⟨w.heap.size, 0, none⟩) (len + ys.length) newCap) (w.drew.alloc (.cells cells e)) := by
  obtain ⟨us, h1, h2, h3, h4⟩ := src_run (P := P) hsrc hzz
  obtain ⟨i, zv, hi, hzr, hzs, hbi⟩ := zok_zero A.hzok
  have hsz : ∀ w', (sizeOf e).run P w' = .ok (P.cellsOf e) w' := fun w' => run_siz' (Nat.pos_iff_ne_zero.1 A.hz) w'
  have hfit := growslice_fits (by omega : cap < len + ys.length) hb
  have hm : len + ys.length ≤ maxLen := by
    have : len + ys.length ≤ (len + ys.length) * P.bytesOf e := Nat.le_mul_of_pos_right _ A.hby
    simp only [maxLen]
    omega
  have hge := grownCap_ge w (len + ys.length) cap e
  have hrun := append_grow (i := i) (ty := ty) A.ht hsz A.hu A.hui (fun w' => by simp [typeInfo, hi]) hzr base len cap c w h3 (h4 w.drew fun _ => rfl) hold hroom (by have := A.hby; omega) (by rw [hbi] at hfit; omega)
  refine ⟨_, _, hge, grownCap_le_maxLen _ _ _ _ hm, ?_, ?_, hrun⟩
  · simp only [Array.size_append, List.size_toArray, size_zeroCells, hzs, hol, h2, ← Nat.add_mul]
    congr 1
    omega
  · simp only [Array.toList_append, List.flatten_append]
    have hl : (len + ys.length) * P.cellsOf e = (olds ++ us).length := by rw [List.length_append, hol, h2, Nat.add_mul]
    rw [hl, List.take_left]
    exact hox.append h1
theorem emp_cells (a : Option Addr) (cap size : Nat) (w : World) : (Builtin.firstCells size 0 (.slice a 0 cap)).run P w = .ok ([] : List Value).toArray w := by
  cases a <;> simp [Builtin.firstCells, loadCells, loadCellsFrom]
/-- Nothing appended to an empty slice without room. -/
theorem append_none {t u e : TypeId} {ud : TypeDesc} {ty : TypeId} (A : AppendOK P t u e ud) {z : Nat} {c : Value} (hsrc : Src I w z [] c) (a : Option Addr) :
    (Builtin.append_ #[t, u] ty #[.slice a 0 0, c]).run P w = .ok (.slice a 0 0) w := by
  obtain ⟨us, h1, h2, h3, h4⟩ := src_run (P := P) (size := P.cellsOf e) hsrc (.inr rfl)
  have hsz : ∀ w', (sizeOf e).run P w' = .ok (P.cellsOf e) w' := fun w' => run_siz' (Nat.pos_iff_ne_zero.1 A.hz) w'
  obtain rfl : us = [] := List.eq_nil_of_length_eq_zero (by simpa using h2)
  have hrun := append_room (ty := ty) A.ht hsz A.hu A.hui a 0 0 c w h3 (h4 w fun _ => rfl) (by simp)
  rw [hrun]
  cases a <;> simp [storeCells]
theorem aappend_fresh (hi : Inv β I σ w) {t u e : TypeId} {ud : TypeDesc} {ty : TypeId} (A : AppendOK P t u e ud) {z : Nat} {ys : List (List T)} {c : Value} (hsrc : Src I w z ys c) (hzz : z = P.cellsOf e ∨ ys = []) (hlen : ∀ r ∈ ys, r.length = P.cellsOf e) (a : Option Addr)
    (hb : ys.length * P.bytesOf e ≤ 140737488355328) : Gives P (Builtin.append_ #[t, u] ty #[.slice a 0 0, c]) β I w (.own σ.length 0 ys.length) (σ ++ [.rows (P.cellsOf e) ys false]) [] := by
  have hnone := hi.none_ge (Nat.le_refl σ.length)
  rcases Nat.eq_zero_or_pos ys.length with h0 | h0
  · obtain rfl : ys = [] := List.eq_nil_of_length_eq_zero h0
    refine ⟨_, w, ext β σ.length .virt, I, append_none A hsrc a, ?_, ?_, ?_, Keeps.ext hnone⟩
    · simp only [VR]; exact .inr ⟨ext_self _ _ _, by simp, by simp, a, rfl⟩
    · exact hi.push (Nat.le_refl _) (fun _ _ => rfl) _ _ (fun y hy => by cases hy) (by simp only [BlkR]; exact .inl ⟨ext_self _ _ _, trivial⟩)
    · exact Step.push hi rfl rfl rfl (Nat.le_refl _) (fun _ _ => rfl) _ (fun y hy => by cases hy)
  · obtain ⟨cells, newCap, h1, h2, h3, h4, h5⟩ := append_new (ty := ty) A hsrc hzz a 0 0 (xs := []) (emp_cells a 0 _ _) (by simp [TRl]) (by simp) (by omega) (by simpa using hb)
    simp only [Nat.zero_add, List.nil_append] at h1 h4 h5
    obtain ⟨i1, s1⟩ := (hi.drew).new (.rows (P.cellsOf e) ys false) ⟨w.heap.size, newCap, P.cellsOf e⟩ cells e rfl (fun β' hb1 hb2 => by
      simp only [BlkR]
      exact .inr ⟨w.heap.size, newCap, cells, e, hb1, alloc_new _ _, h3, h1, h2, hlen, h4, fun o _ => Imm.none_new hi o⟩)
    refine ⟨_, _, _, I, h5, ?_, i1, (Step.drew β I w).trans s1, Keeps.ext hnone⟩
    simp only [VR]
    exact .inl ⟨_, ext_self _ _ _, .inl ⟨by simpa using h1, by simp⟩⟩
theorem src_len (hi : Inv β I σ w) {x : V} {c : Value} {z : Nat} {ys : List (List T)} (h : Src I w z ys c) : ∀ r ∈ ys, r.length = z := by
  rcases h with ⟨s, rfl, rfl, rfl⟩ | ⟨a, cap, rfl, h⟩
  · intro r hr
    simp only [List.mem_map] at hr
    obtain ⟨b, _, rfl⟩ := hr
    rfl
  · rcases h with rfl | ⟨b, o, us, rfl, h1, _⟩
    · simp
    · exact h1
/-- A row of one's own that grows into a new block. -/
theorem aappend_move (hi : Inv β I σ w) {t u e : TypeId} {ud : TypeDesc} {ty : TypeId} (A : AppendOK P t u e ud) {z : Nat} {ys xs : List (List T)} {c : Value} (hsrc : Src I w z ys c) (hzz : z = P.cellsOf e ∨ ys = []) (hlen : ∀ r ∈ xs ++ ys, r.length = P.cellsOf e)
    {tag : Nat} {ro : Bool} (hk : σ[tag]? = some (.rows (P.cellsOf e) xs ro)) (base : Option Addr) (cap : Nat) {olds : List Value}
    (hold : (Builtin.firstCells (P.cellsOf e) xs.length (.slice base xs.length cap)).run P w.drew = .ok olds.toArray w.drew) (hox : TRl I xs.flatten olds) (hol : olds.length = xs.length * P.cellsOf e) (hroom : ¬ xs.length + ys.length ≤ cap) (hb : (xs.length + ys.length) * P.bytesOf e ≤ 140737488355328) :
    Gives P (Builtin.append_ #[t, u] ty #[.slice base xs.length cap, c]) β I w (.own tag 0 (xs.length + ys.length)) ((σ.set tag (.rows (P.cellsOf e) (xs ++ ys) ro)).map (Blk.pz [tag])) [tag] := by
  obtain ⟨cells, newCap, h1, h2, h3, h4, h5⟩ := append_new (ty := ty) A hsrc hzz base xs.length cap hold hox hol hroom hb
  have hlt := (List.getElem?_eq_some_iff.1 hk).1
  have hh : ∀ b, b < w.heap.size → (w.drew.alloc (.cells cells e)).heap[b]? = w.heap[b]? := fun b hb => alloc_old w.drew _ hb
  refine ⟨_, _, ext β tag (.real ⟨w.heap.size, newCap, P.cellsOf e⟩), I, h5, ?_, ?_, ?_, Keeps.extMv⟩
  · simp only [VR]
    exact .inl ⟨_, ext_self _ _ _, .inl ⟨by simpa using h1, by simp⟩⟩
  · refine hi.move hlt _ _ (by simp) (fun b hb _ => hh b hb) (fun x o v hx hv => ?_) (fun y hy => ?_) ?_
    · rw [cell_of_heap (hh _ (hi.ilt hv))]; exact hi.imm _ _ _ hv
    · injection hy with hy; subst hy; exact ⟨.inr (Nat.le_refl _), by simp⟩
    · simp only [Blk.pz, BlkR]
      exact .inr ⟨w.heap.size, newCap, cells, e, ext_self _ _ _, alloc_new w.drew _, h3, by simpa using h1, h2, hlen, by simpa using h4, fun o _ => Imm.none_new hi o⟩
  · exact Step.move (w' := w.drew.alloc (.cells cells e)) hi _ rfl rfl rfl (by simp) (fun b hb _ => hh b hb) (fun y hy => by injection hy with hy; subst hy; exact .inr (Nat.le_refl _))
theorem aappend_sound (hi : Inv β I σ w) {t u ty : TypeId} {s x v : V} {sc xc : Value} {σ' : List Blk} {mv : List Nat} (h : aappend P σ t u s x = some (v, σ', mv)) (hs : VR β I s sc) (hx : VR β I x xc) :
    Gives P (Builtin.append_ #[t, u] ty #[sc, xc]) β I w v (σ'.map (Blk.pz mv)) mv := by
  unfold aappend at h
  split at h
  · rename_i e ud ht hu
    split at h
    · simp at h
    · rename_i hc
      simp only [not_or, Bool.not_eq_true, Bool.not_eq_false] at hc
      have A : AppendOK P t u e ud := ⟨ht, hu, hc.1, Nat.pos_of_ne_zero hc.2.1, Nat.pos_of_ne_zero hc.2.2.1, hc.2.2.2⟩
      split at h
      · simp at h
      · rename_i zy ys hr
        split at h
        · simp at h
        · rename_i hzz
          have hzz : zy = P.cellsOf e ∨ ys = [] := Classical.not_not.1 hzz
          have hsrc := rowsOf_sound hi hr hx
          have hlen : ∀ r ∈ ys, r.length = P.cellsOf e := by
            intro r hr'
            rcases hzz with rfl | rfl
            · exact src_len (x := x) hi hsrc r hr'
            · simp at hr'
          split at h
          · -- a row of one's own
            rename_i tag len
            split at h
            · rename_i z xs ro hk
              split at h
              · rename_i hcond
                obtain ⟨rfl, rfl, hb⟩ := hcond
                simp only [Option.some.injEq, Prod.mk.injEq] at h
                obtain ⟨rfl, rfl, rfl⟩ := h
                have hblk := hi.blk tag _ hk
                simp only [BlkR] at hblk
                have hlt := (List.getElem?_eq_some_iff.1 hk).1
                have hall : ∀ hx6 : (∀ r ∈ xs, r.length = P.cellsOf e), ∀ r ∈ xs ++ ys, r.length = P.cellsOf e := fun h6 r hr' => by
                  rcases List.mem_append.1 hr' with h | h
                  · exact h6 r h
                  · exact hlen r h
                simp only [VR] at hs
                rcases hs with ⟨y, hy, ⟨hcap, rfl⟩ | ⟨h0, hcap, a, rfl⟩⟩ | ⟨hy, _, h0, a, rfl⟩
                · rcases hblk with ⟨h1, _⟩ | ⟨b, cap, cs, e', h1, h2, h3, h4, h5, h6, h7, h8⟩
                  · rw [hy] at h1; simp at h1
                  · rw [hy] at h1
                    simp at h1
                    subst h1
                    simp only [Nat.zero_mul, Nat.sub_zero] at hcap ⊢
                    have hol : (cs.toList.take (xs.length * P.cellsOf e)).length = xs.length * P.cellsOf e := by
                      have : xs.length * P.cellsOf e ≤ cap * P.cellsOf e := Nat.mul_le_mul_right _ h4
                      simp
                      omega
                    by_cases hroom : xs.length + ys.length ≤ cap
                    · -- there is room
                      obtain ⟨us, g1, g2, g3, g4⟩ := src_run (P := P) hsrc hzz
                      have hsz : ∀ w', (sizeOf e).run P w' = .ok (P.cellsOf e) w' := fun w' => run_siz' (Nat.pos_iff_ne_zero.1 A.hz) w'
                      have hrun := append_room (ty := ty) A.ht hsz A.hu A.hui (some ⟨b, 0, none⟩) xs.length cap xc w g3 (g4 w fun _ => rfl) hroom
                      have hfit : xs.length * P.cellsOf e + us.length ≤ cs.size := by
                        rw [g2, h3, ← Nat.add_mul]; exact Nat.mul_le_mul_right _ hroom
                      have hst := run_storeCells_at (P := P) b (xs.length * P.cellsOf e) e' us 0 cs w h2 (by simpa using hfit) (g1.ones)
                      have hrun' : (Builtin.append_ #[t, u] ty #[.slice (some ⟨b, 0, none⟩) xs.length cap, xc]).run P w = .ok (.slice (some ⟨b, 0, none⟩) (xs.length + ys.length) cap) (w.setRow b (setL cs.toList (xs.length * P.cellsOf e) us).toArray) := by
                        rw [hrun]
                        simp only [addr_add, Nat.zero_add, hst, Result.andThen_ok, Nat.add_zero]
                        rfl
                      have hsl : (setL cs.toList (xs.length * P.cellsOf e) us).length = cs.toList.length := setL_length (by simpa using hfit)
                      refine ⟨_, _, ext β tag (.real ⟨b, cap, P.cellsOf e⟩), I, hrun', ?_, ?_, ?_, Keeps.extMv⟩
                      · simp only [VR]
                        exact .inl ⟨_, ext_self _ _ _, .inl ⟨by simpa using hroom, by simp⟩⟩
                      · refine hi.move hlt _ _ (by simp) (fun b' _ hne => setRow_other w b b' _ (fun e => hne _ hy e.symm)) (fun x o v hx hv => ?_) (fun y hy' => ?_) ?_
                        · rw [hy] at hx
                          simp at hx
                          subst hx
                          have ho : o < xs.length * P.cellsOf e := by
                            rcases Nat.lt_or_ge o (xs.length * P.cellsOf e) with h | h
                            · exact h
                            · have := h8 o (.inr h); rw [this] at hv; cases hv
                          have hcell := hi.imm _ _ _ hv
                          rw [cell_setRow_same w b o cs _ e' (0, 0) h2]
                          have : cs[o]? = some v := by simpa [World.cell?, h2] using hcell
                          rw [List.getElem?_toArray]
                          unfold setL
                          rw [List.append_assoc, List.getElem?_append_left (by simp; omega), List.getElem?_take, if_pos ho]
                          simpa using this
                        · injection hy' with hy'; subst hy'
                          exact ⟨.inl ⟨_, hy, rfl⟩, by simpa using hi.blt hy⟩
                        · simp only [Blk.pz, BlkR]
                          refine .inr ⟨b, cap, _, e', ext_self _ _ _, setRow_heap w b cs _ e' (0, 0) h2, ?_, by simpa using hroom, h5, hall h6, ?_, fun o ho => h8 o ?_⟩
                          · rw [List.size_toArray, hsl, Array.length_toList, h3]
                          · simp only [List.flatten_append, List.length_append, Nat.add_mul]
                            unfold setL
                            have hl : xs.length * P.cellsOf e + ys.length * P.cellsOf e = (cs.toList.take (xs.length * P.cellsOf e) ++ us).length := by rw [List.length_append, hol, g2]
                            rw [hl, List.take_left]
                            exact h7.append g1
                          · rcases ho with ho | ho
                            · exact .inl ho
                            · right
                              simp only [List.length_append, Nat.add_mul] at ho
                              omega
                      · exact Step.move (w' := w.setRow b _) hi _ rfl rfl rfl (by simp) (fun b' _ hne => setRow_other w b b' _ (fun e => hne _ hy e.symm)) (fun y hy' => by injection hy' with hy'; subst hy'; exact .inl ⟨_, hy, rfl⟩)
                    · -- there is none
                      refine aappend_move hi A hsrc hzz (hall h6) hk (some ⟨b, 0, none⟩) cap (olds := cs.toList.take (xs.length * P.cellsOf e)) ?_ h7 hol hroom hb
                      have := run_loadCells_list (P := P) w.drew ⟨b, 0, none⟩ (cs.toList.take (xs.length * P.cellsOf e)) (fun j v hv => by
                        rw [addr_add, Nat.zero_add, cell_drew]
                        rw [List.getElem?_take] at hv
                        split at hv
                        · simp [World.cell?, h2, ← Array.getElem?_toList, hv]
                        · simp at hv)
                      rw [hol] at this
                      simpa [Builtin.firstCells] using this
                · -- an empty one, without room
                  obtain rfl : xs = [] := List.eq_nil_of_length_eq_zero h0
                  have h6 : ∀ r ∈ ([] : List (List T)), r.length = P.cellsOf e := by simp
                  rcases Nat.eq_zero_or_pos ys.length with hy0 | hy0
                  · obtain rfl : ys = [] := List.eq_nil_of_length_eq_zero hy0
                    refine ⟨_, w, ext β tag (.real y), I, append_none A hsrc a, ?_, ?_, ?_, Keeps.extMv⟩
                    · simp only [VR]; exact .inl ⟨_, ext_self _ _ _, .inr ⟨by simp, hcap, a, rfl⟩⟩
                    · refine hi.move hlt _ _ (Nat.le_refl _) (fun _ _ _ => rfl) (fun x o v _ hv => hi.imm _ _ _ hv) (fun y' hy' => ?_) ?_
                      · injection hy' with hy'; subst hy'; exact ⟨.inl ⟨_, hy, rfl⟩, hi.blt hy⟩
                      · simp only [Blk.pz, BlkR]
                        rcases hblk with ⟨h1, _⟩ | ⟨b, cap, cs, e', h1, h2, h3, h4, h5, h6', h7, h8⟩
                        · rw [hy] at h1; simp at h1
                        · rw [hy] at h1
                          simp at h1
                          subst h1
                          exact .inr ⟨b, cap, cs, e', ext_self _ _ _, h2, h3, by simp, h5, by simp, by simp [TRl], fun o ho => h8 o ho⟩
                    · exact Step.move (w' := w) hi _ rfl rfl rfl (Nat.le_refl _) (fun _ _ _ => rfl) (fun y' hy' => by injection hy' with hy'; subst hy'; exact .inl ⟨_, hy, rfl⟩)
                  · exact aappend_move hi A hsrc hzz (hall h6) hk a 0 (olds := []) (emp_cells a 0 _ _) (by simp [TRl]) (by simp) (by simp only [List.length_nil]; omega) hb
                · -- nil, or empty without room
                  obtain rfl : xs = [] := List.eq_nil_of_length_eq_zero h0
                  have h6 : ∀ r ∈ ([] : List (List T)), r.length = P.cellsOf e := by simp
                  rcases Nat.eq_zero_or_pos ys.length with hy0 | hy0
                  · obtain rfl : ys = [] := List.eq_nil_of_length_eq_zero hy0
                    refine ⟨_, w, ext β tag .virt, I, append_none A hsrc a, ?_, ?_, ?_, Keeps.extMv⟩
                    · simp only [VR]; exact .inr ⟨ext_self _ _ _, by simp, by simp, a, rfl⟩
                    · refine hi.move hlt _ _ (Nat.le_refl _) (fun _ _ _ => rfl) (fun x o v _ hv => hi.imm _ _ _ hv) (fun y' hy' => by cases hy') ?_
                      simp only [Blk.pz, BlkR]
                      exact .inl ⟨ext_self _ _ _, by simp⟩
                    · exact Step.move (w' := w) hi _ rfl rfl rfl (Nat.le_refl _) (fun _ _ _ => rfl) (fun y' hy' => by cases hy')
                  · exact aappend_move hi A hsrc hzz (hall h6) hk a 0 (olds := []) (emp_cells a 0 _ _) (by simp [TRl]) (by simp) (by simp only [List.length_nil]; omega) hb
              · simp at h
            · simp at h
          · -- an empty one
            split at h
            · rename_i hb
              simp only [Option.some.injEq, Prod.mk.injEq] at h
              obtain ⟨rfl, rfl, rfl⟩ := h
              simp only [VR] at hs
              obtain ⟨a, rfl⟩ := hs
              have := aappend_fresh (ty := ty) hi A hsrc hzz hlen a hb
              have e1 : ∀ l : List Blk, l.map (Blk.pz []) = l := fun l => by induction l with | nil => rfl | cons k l ih => simp [Blk.pz_nil, ih]
              rw [e1]
              exact this
            · simp at h
          · split at h
            · rename_i hb
              simp only [Option.some.injEq, Prod.mk.injEq] at h
              obtain ⟨rfl, rfl, rfl⟩ := h
              simp only [VR] at hs
              obtain ⟨rfl, _⟩ := hs
              have := aappend_fresh (ty := ty) hi A hsrc hzz hlen none hb
              have e1 : ∀ l : List Blk, l.map (Blk.pz []) = l := fun l => by induction l with | nil => rfl | cons k l ih => simp [Blk.pz_nil, ih]
              rw [e1]
              exact this
            · simp at h
          · simp at h
  · simp at h
end
end Go.Ai

set_option linter.unusedVariables false
set_option linter.unusedSimpArgs false
namespace Go.Ai
theorem flat_get {α : Type} {z : Nat} (l : List α) (hz : l.length = z) : ∀ (n j : Nat), j < n * z → (List.replicate n l).flatten[j]? = l[j % z]?
  | 0, j, h => by omega
  | n + 1, j, h => by
    simp only [List.replicate_succ, List.flatten_cons]
    rw [Nat.add_mul] at h
    by_cases hj : j < z
    · rw [List.getElem?_append_left (by omega), Nat.mod_eq_of_lt hj]
    · rw [List.getElem?_append_right (by omega), hz, flat_get l hz n (j - z) (by omega)]
      congr 1
      conv => rhs; rw [show j = (j - z) + z by omega, Nat.add_mod_right]
theorem init_cells (zero : Array Value) (n : Nat) (hz : 0 < zero.size) : ((Array.range (n * zero.size)).map (zero[· % zero.size]!)).toList = (List.replicate n zero.toList).flatten := by
  apply List.ext_getElem?
  intro j
  by_cases hj : j < n * zero.size
  · rw [flat_get zero.toList (by simp) n j hj]
    have hm : j % zero.size < zero.size := Nat.mod_lt _ hz
    simp [hj, hm]
  · have : (List.replicate n zero.toList).flatten.length = n * zero.size := by simp
    rw [List.getElem?_eq_none (by simp; omega), List.getElem?_eq_none (by omega)]
section
variable {P : Program} {β : Nat → Option BV} {I : Imm} {w : World} {σ : List Blk}
theorem TRl.rep {zt : List T} {zc : List Value} (h : TRl I zt zc) : ∀ n, TRl I (List.replicate n zt).flatten (List.replicate n zc).flatten
  | 0 => by simp [TRl]
  | n + 1 => by simp only [List.replicate_succ, List.flatten_cons]; exact h.append (TRl.rep h n)
theorem VRs.rep {zt : List V} {zc : List Value} (h : VRs β I zt zc) : ∀ n, VRs β I (List.replicate n zt).flatten (List.replicate n zc).flatten
  | 0 => by simp [VRs]
  | n + 1 => by simp only [List.replicate_succ, List.flatten_cons]; exact h.append (VRs.rep h n)
theorem wrap_small {n : Int} (h0 : 0 ≤ n) (h1 : n ≤ 281474976710656) : IntKind.i64.wrap n = n := by
  simp only [IntKind.wrap, IntKind.bits, IntKind.signed]
  have : n % (2 ^ 64 : Int) = n := Int.emod_eq_of_lt h0 (by omega)
  simp only [this]
  rw [if_neg]
  simp
  omega
theorem new_rows (hi : Inv β I σ w) {e : TypeId} {z cap : Nat} {xs : List (List T)} {cs : Array Value} (hs : cs.size = cap * z) (hle : xs.length ≤ cap) (hcap : cap ≤ maxLen) (h6 : ∀ r ∈ xs, r.length = z) (h7 : TRl I xs.flatten (cs.toList.take (xs.length * z))) (s : Sem Value)
    (hrun : s.run P w = .ok (.slice (some ⟨w.heap.size, 0, none⟩) xs.length cap) (w.alloc (.cells cs e))) : Gives P s β I w (.own σ.length 0 xs.length) (σ ++ [.rows z xs false]) [] := by
  obtain ⟨i1, s1⟩ := hi.new (.rows z xs false) ⟨w.heap.size, cap, z⟩ cs e rfl (fun β' hb1 hb2 => by
    simp only [BlkR]
    exact .inr ⟨w.heap.size, cap, cs, e, hb1, alloc_new _ _, hs, hle, hcap, h6, h7, fun o _ => Imm.none_new hi o⟩)
  refine ⟨_, _, _, I, hrun, ?_, i1, s1, Keeps.ext (hi.none_ge (Nat.le_refl _))⟩
  simp only [VR]
  exact .inl ⟨_, ext_self _ _ _, .inl ⟨by simpa using hle, by simp⟩⟩
theorem amakeSlice_sound (hi : Inv β I σ w) {t : TypeId} {l c v : V} {lc cc : Value} {σ' : List Blk} (h : amakeSlice P σ t l c = some (v, σ')) (hl : VR β I l lc) (hc : VR β I c cc) : Gives P (Instr.makeSlice t lc cc) β I w v σ' [] := by
  unfold amakeSlice at h
  split at h
  · rename_i e k1 l k2 c hu
    simp only [VR] at hl hc
    obtain ⟨rfl, _⟩ := hl
    obtain ⟨rfl, _⟩ := hc
    split at h
    · rename_i hcond
      obtain ⟨h0, h1, h2, h3, h4, h5⟩ := hcond
      split at h
      · rename_i zt hz
        simp at h
        obtain ⟨rfl, rfl⟩ := h
        rw [Option.bind_eq_some_iff] at hz
        obtain ⟨zc, hz1, hz2⟩ := hz
        rw [Option.bind_eq_some_iff] at hz1
        obtain ⟨zv, hz3, hz4⟩ := hz1
        obtain ⟨zx, hz5, hz6, hz7⟩ := zeroV_run (β := β) (I := I) hz3 w
        obtain ⟨i, zv', hi', hzr, hzs, hbi⟩ := zok_zero h5
        obtain rfl : zv' = zx := by have := hzr w; rw [hz5] at this; injection this with e1; exact e1.symm
        have htr := scalTs_sound hz2 (hz6.cells hz4)
        obtain ⟨cn, rfl⟩ := Int.eq_ofNat_of_zero_le (by omega : 0 ≤ c)
        obtain ⟨ln, rfl⟩ := Int.eq_ofNat_of_zero_le h0
        have hcn : cn ≤ 281474976710656 := by
          have : (cn : Int) ≤ (P.bytesOf e : Int) * cn := by
            have := Int.mul_le_mul_of_nonneg_right (show (1 : Int) ≤ P.bytesOf e by omega) (show (0 : Int) ≤ cn by omega)
            simpa using this
          omega
        have hsz : ∀ w', (sizeOf e).run P w' = .ok (P.cellsOf e) w' := fun w' => run_siz' (by omega) w'
        have hti : ∀ w', (typeInfo e).run P w' = .ok i w' := fun w' => by simp [typeInfo, hi']
        have hzlen : zt.length = P.cellsOf e := by rw [htr.length, Array.length_toList, hzs]
        have hxl : (List.replicate ln zt).length = ln := by simp
        have hzpos : 0 < zv'.cells.size := by omega
        have hcells := init_cells zv'.cells cn hzpos
        rw [hzs] at hcells
        have hsize : ((Array.range (cn * P.cellsOf e)).map (zv'.cells[· % P.cellsOf e]!)).size = cn * P.cellsOf e := by simp
        have hflat : (List.replicate cn zv'.cells.toList).flatten = (List.replicate ln zv'.cells.toList).flatten ++ (List.replicate (cn - ln) zv'.cells.toList).flatten := by
          rw [← List.flatten_append, List.replicate_append_replicate]
          congr 2
          omega
        have hG := new_rows (P := P) (e := e) hi (xs := List.replicate ln zt) (z := P.cellsOf e) (cap := cn) hsize (by simp; omega) (by simp only [maxLen]; omega) (fun r hr => by rw [List.eq_of_mem_replicate hr]; exact hzlen) (by
          rw [hcells, hflat, hxl]
          have : ln * P.cellsOf e = (List.replicate ln zv'.cells.toList).flatten.length := by simp [hzs]
          rw [this, List.take_left]
          exact htr.rep ln) (Instr.makeSlice t (.int k1 ln) (.int k2 cn)) (by
          have hw1 := wrap_small (n := (ln : Int)) (by omega) (by omega)
          have hw2 := wrap_small (n := (cn : Int)) (by omega) (by omega)
          have ht1 : ¬ ((cn : Int) < 0 ∨ (i.bytes : Int) * cn > 2 ^ 48) := by rw [← hbi]; omega
          simp only [Instr.makeSlice, Sem.run_bind, run_und hu, Result.andThen_ok, asInt, asIntOf, Sem.run_pure, hti, hw1, hw2]
          have e1 : (((cn : Int) < 0 || (i.bytes : Int) * cn > 2 ^ 48) || (ln : Int) < 0 || (ln : Int) > cn) = false := by
            simp only [Bool.or_eq_false_iff, decide_eq_false_iff_not]
            simp only [not_or] at ht1
            refine ⟨⟨⟨ht1.1, ht1.2⟩, by omega⟩, by omega⟩
          simp only [e1, Bool.false_eq_true, if_false, run_askRoom, Result.andThen_ok, hsz, Int.toNat_natCast, Sem.run_bind]
          rcases Nat.eq_zero_or_pos (cn * P.cellsOf e) with hz0 | hz0
          · have hr : Array.range 0 = #[] := rfl
            simp [hz0, newRow, hxl, hr]
          · have hne : cn * P.cellsOf e ≠ 0 := by omega
            simp [hne, newRow, hxl, hzr, hzs])
        rw [hxl] at hG
        simpa using hG
      · simp at h
    · simp at h
  · simp at h
/-! ### Literals of slices -/
theorem arowsFill_sound {z : Nat} : ∀ {parts : List (Nat × V)} {cparts : List (Nat × Value)} {σ : List Blk} {I : Imm} {xs out : List (List T)} {cs : Array Value} {σ' : List Blk}, Inv β I σ w → arowsFill z σ xs parts = some (out, σ') →
    parts.map (·.1) = cparts.map (·.1) → VRs β I (parts.map (·.2)) (cparts.map (·.2)) → (∀ r ∈ xs, r.length = z) → TRl I xs.flatten cs.toList →
    ∃ I' r, Instr.fill (fun i => some (i * z, z)) cs cparts = some r ∧ Inv β I' σ' w ∧ Step β I w β I' w ∧ TRl I' out.flatten r.toList ∧ (∀ r ∈ out, r.length = z) ∧ out.length = xs.length ∧ σ'.length = σ.length
  | [], [], σ, I, xs, out, cs, σ', hi, h, _, _, hz, hc => by
    simp [arowsFill] at h
    obtain ⟨rfl, rfl⟩ := h
    exact ⟨I, cs, rfl, hi, Step.refl _ _ _, hc, hz, rfl, rfl⟩
  | (i, v) :: parts, (j, c) :: cparts, σ, I, xs, out, cs, σ', hi, h, he, hv, hz, hc => by
    simp only [List.map_cons, List.cons.injEq] at he
    simp only [List.map_cons, VRs] at hv
    obtain ⟨rfl, he⟩ := he
    simp only [arowsFill] at h
    split at h
    · rename_i vs h1
      split at h
      · rename_i ts σ1 h2
        split at h
        · rename_i hle
          have hvc := hv.1.cells h1
          obtain ⟨I1, i1, s1, t1⟩ := frz_sound hi h2 hvc
          have hl1 : σ1.length = σ.length := by
            have : ∀ {vs : List V} {σ : List Blk} {ts : List T} {σ' : List Blk}, frz σ vs = some (ts, σ') → σ'.length = σ.length := by
              intro vs
              induction vs with
              | nil => intro σ ts σ' h; simp [frz] at h; rw [← h.2]
              | cons v vs ih =>
                intro σ ts σ' h
                simp only [frz] at h
                split at h
                · rename_i t σ1 h3
                  split at h
                  · rename_i ts' σ2 h4
                    simp at h
                    rw [← h.2, ih h4]
                    unfold frz1 at h3
                    split at h3 <;> (try split at h3) <;> (try split at h3) <;> simp at h3 <;> simp [← h3.2]
                  · simp at h
                · simp at h
            exact this h2
          have hr := List.getElem?_eq_getElem hle.2
          have hrl : xs[i].length = z := hz _ (List.getElem_mem hle.2)
          have hset : setL xs[i] 0 ts = ts := by
            unfold setL
            simp [hle.1, hrl]
          have hcl := hvc.length
          have hcc := hc.length
          have hxl := flatten_len hz
          have hcs : c.cells.size = z := by rw [← Array.length_toList, ← t1.length, hle.1]
          have hcs' : cs.size = xs.length * z := by rw [← Array.length_toList, ← hcc, hxl]
          have hb : i * z + z ≤ cs.size := by
            have : (i + 1) * z ≤ xs.length * z := Nat.mul_le_mul_right _ hle.2
            rw [Nat.add_mul] at this
            omega
          have hfold : ((c.cells.zipIdx).foldl (fun cs (x : Value × Nat) => cs.setIfInBounds (i * z + x.2) x.1) cs).toList = setL cs.toList (i * z) c.cells.toList := by
            have h0 := setFold c.cells.toList 0 (i * z) cs (by simp; omega)
            rw [Nat.add_zero] at h0
            rw [← h0, ← Array.foldl_toList]
            simp
          have hfl := flatten_set (o := 0) (vs := ts) hz hr (by omega)
          rw [hset, Nat.add_zero] at hfl
          obtain ⟨I2, r, g1, g2, g3, g4, g5, g6, g7⟩ := arowsFill_sound (cs := (c.cells.zipIdx).foldl (fun cs (x : Value × Nat) => cs.setIfInBounds (i * z + x.2) x.1) cs) i1 h he (VRs.mono (Keeps.refl β) s1.mono hv.2) (fun r hr => by
            rcases List.mem_or_eq_of_mem_set hr with hr | rfl
            · exact hz r hr
            · exact hle.1) (by rw [hfl, hfold]; exact (TRl.mono s1.mono _ _ hc).setL t1 _)
          refine ⟨I2, r, ?_, g2, s1.trans g3, g4, g5, by simpa using g6, by rw [g7, hl1]⟩
          simp only [Instr.fill]
          rw [if_neg]
          · exact g1
          · simp [hcs]; omega
        · simp at h
      · simp at h
    · simp at h
  | [], _ :: _, _, _, _, _, _, _, _, _, hi, _, _, _ => by simp at hi
  | _ :: _, [], _, _, _, _, _, _, _, _, hi, _, _, _ => by simp at hi
theorem abuildSlice_sound (hi : Inv β I σ w) {t : TypeId} {len : Nat} {parts : List (Nat × V)} {cparts : Array (Nat × Value)} {v : V} {σ' : List Blk} (h : abuildSlice P σ t len parts = some (v, σ')) (he : parts.map (·.1) = cparts.toList.map (·.1)) (hv : VRs β I (parts.map (·.2)) (cparts.toList.map (·.2))) :
    Gives P (Instr.buildSlice t len cparts) β I w v σ' [] := by
  unfold abuildSlice at h
  split at h
  · rename_i e hu
    split at h
    · simp at h
    · rename_i hc
      simp only [not_or, Bool.not_eq_false] at hc
      obtain ⟨h1, h2, h3⟩ := hc
      split at h
      · rename_i zc hz1
        rw [Option.bind_eq_some_iff] at hz1
        obtain ⟨zv, hz3, hz4⟩ := hz1
        obtain ⟨zx, hz5, hz6, hz7⟩ := zeroV_run (β := β) (I := I) hz3 w
        obtain ⟨i, zv', hi', hzr, hzs, hbi⟩ := zok_zero h3
        obtain rfl : zv' = zx := by have := hzr w; rw [hz5] at this; injection this with e1; exact e1.symm
        have hzpos : 0 < zv'.cells.size := by omega
        have hcells := init_cells zv'.cells len hzpos
        rw [hzs] at hcells
        have hsz : ∀ w', (sizeOf e).run P w' = .ok (P.cellsOf e) w' := fun w' => run_siz' h1 w'
        have hrun : ∀ r, Instr.fill (fun i => some (i * P.cellsOf e, P.cellsOf e)) ((Array.range (len * P.cellsOf e)).map (zv'.cells[· % P.cellsOf e]!)) cparts.toList = some r →
            (Instr.buildSlice t len cparts).run P w = .ok (.slice (some ⟨w.heap.size, 0, none⟩) len len) (w.alloc (.cells r e)) := by
          intro r hr
          have h2' : ¬ len * P.cellsOf e > 2 ^ 24 := by omega
          rcases Nat.eq_zero_or_pos (len * P.cellsOf e) with hz0 | hz0
          · have hr0 : Array.range 0 = #[] := rfl
            rw [hz0, hr0] at hr
            simp at hr
            simp [Instr.buildSlice, run_und hu, hsz, hz0, newRow, hr0, hr]
          · have hne : len * P.cellsOf e ≠ 0 := by omega
            simp only [Instr.buildSlice, Sem.run_bind, run_und hu, Result.andThen_ok, hsz, h2', if_false, hne, hzr, Sem.run_pure, hzs, hr]
            simp [newRow]
        split at h
        · rename_i xs σ1 hf
          simp at h
          obtain ⟨rfl, rfl⟩ := h
          rw [Option.bind_eq_some_iff] at hf
          obtain ⟨zt, hzt, hf⟩ := hf
          have htr := scalTs_sound hzt (hz6.cells hz4)
          have hzlen : zt.length = P.cellsOf e := by rw [htr.length, Array.length_toList, hzs]
          obtain ⟨I1, r, g1, g2, g3, g4, g5, g6, g7⟩ := arowsFill_sound (cs := (Array.range (len * P.cellsOf e)).map (zv'.cells[· % P.cellsOf e]!)) hi hf he hv (fun r hr => by rw [List.eq_of_mem_replicate hr]; exact hzlen) (by rw [hcells]; exact htr.rep len)
          have hxl : xs.length = len := by simpa using g6
          have hrs : r.size = len * P.cellsOf e := by
            have := g4.length
            rw [flatten_len g5, hxl] at this
            simpa using this.symm
          have hG := new_rows (P := P) (e := e) g2 (cap := len) (cs := r) hrs (by omega) (by
            have : len ≤ len * P.cellsOf e := Nat.le_mul_of_pos_right _ (by omega)
            simp only [maxLen]; omega) g5 (by rw [hxl, ← hrs, List.take_of_length_le (by simp)]; exact g4) (Instr.buildSlice t len cparts) (by rw [hxl]; exact hrun r g1)
          rw [hxl] at hG
          obtain ⟨c, w', β', I', a1, a2, a3, a4, a5⟩ := hG
          exact ⟨c, w', β', I', a1, a2, a3, g3.trans a4, a5⟩
        · split at h
          · rename_i cells hf
            simp at h
            obtain ⟨rfl, rfl⟩ := h
            obtain ⟨r, g1, g2⟩ := fill_sound (pl' := fun i => some (i * P.cellsOf e, P.cellsOf e)) (fun i o s hp => hp) hf he hv (cs := (Array.range (len * P.cellsOf e)).map (zv'.cells[· % P.cellsOf e]!)) (by
              rw [hcells]
              exact (hz6.cells hz4).rep len)
            obtain ⟨i1, s1⟩ := box_sound hi g2 e
            refine ⟨_, _, _, I, hrun r g1, ?_, i1, s1, Keeps.ext (hi.none_ge (Nat.le_refl _))⟩
            simp only [VR]
            exact ⟨_, _, _, ext_self _ _ _, Nat.le_refl _, rfl, .inr rfl⟩
          · simp at h
      · simp at h
  · simp at h
/-! ### copy -/
theorem src_run_n {z size : Nat} {ys : List (List T)} {c : Value} (h : Src I w z ys c) (hz : z = size ∨ ys = []) (hns : ∀ s, c ≠ .string s) {n : Nat} (hn : n ≤ ys.length) :
    ∃ us, TRl I (ys.take n).flatten us ∧ us.length = n * size ∧ (Builtin.lenOf c).run P w = .ok ys.length w ∧ (Builtin.firstCells size n c).run P w = .ok us.toArray w := by
  rcases h with ⟨s, rfl, rfl, rfl⟩ | ⟨a, cap, rfl, h⟩
  · exact absurd rfl (hns s)
  · rcases h with rfl | ⟨b, o, us, rfl, h1, h2, h3⟩
    · obtain rfl : n = 0 := by simpa using hn
      refine ⟨[], by simp [TRl], by simp, by simp [Builtin.lenOf], ?_⟩
      cases a with
      | none => simp [Builtin.firstCells]
      | some a => simp [Builtin.firstCells, loadCells, loadCellsFrom]
    · have hl : us.length = ys.length * z := by rw [← h2.length, flatten_len h1]
      rcases hz with rfl | rfl
      · have hle : n * z ≤ ys.length * z := Nat.mul_le_mul_right _ hn
        have htl : (us.take (n * z)).length = n * z := by simp; omega
        refine ⟨us.take (n * z), by rw [← flatten_take n h1]; exact h2.take _, htl, by simp [Builtin.lenOf], ?_⟩
        have := run_loadCells_list (P := P) w ⟨b, o, none⟩ (us.take (n * z)) (fun j v hv => by
          rw [addr_add]
          rw [List.getElem?_take] at hv
          split at hv
          · exact h3 j v hv
          · simp at hv)
        rw [htl] at this
        simp [Builtin.firstCells, this]
      · obtain rfl : n = 0 := by simpa using hn
        exact ⟨[], by simp [TRl], by simp, by simp [Builtin.lenOf], by simp [Builtin.firstCells, loadCells, loadCellsFrom]⟩
theorem set_same {α : Type} : ∀ {l : List α} {i : Nat} {a : α}, l[i]? = some a → l.set i a = l
  | [], _, _, h => by simp at h
  | x :: l, 0, a, h => by simp at h; subst h; rfl
  | x :: l, i + 1, a, h => by simp at h ⊢; exact set_same h
theorem flatten_setL {α : Type} {z : Nat} {xs ys : List (List α)} {o : Nat} (hx : ∀ r ∈ xs, r.length = z) (hy : ∀ r ∈ ys, r.length = z) : (setL xs o ys).flatten = setL xs.flatten (o * z) ys.flatten := by
  unfold setL
  simp only [List.flatten_append]
  rw [← flatten_take o hx, flatten_len hy, ← Nat.add_mul, ← flatten_drop _ hx]
theorem acopy_sound (hi : Inv β I σ w) {t u ty : TypeId} {d x v : V} {dc xc : Value} {σ' : List Blk} (h : acopy P σ t d x = some (v, σ')) (hd : VR β I d dc) (hx : VR β I x xc) : Gives P (Builtin.copy_ #[t, u] ty #[dc, xc]) β I w v σ' [] := by
  unfold acopy at h
  split at h
  · rename_i e tag off len zy ys hu hr
    split at h
    · rename_i z xs hk
      split at h
      · rename_i hc
        obtain ⟨rfl, hz, hns, hzz, hle⟩ := hc
        simp only [Option.some.injEq, Prod.mk.injEq] at h
        obtain ⟨rfl, rfl⟩ := h
        have hsrc := rowsOf_sound hi hr hx
        have hns' : ∀ s, xc ≠ .string s := by
          rintro s rfl
          rcases hsrc with ⟨s', e1, _⟩ | ⟨a, cap, e1, _⟩
          · cases x <;> simp only [VR, TR] at hx <;> first
              | (obtain ⟨e2, _⟩ := hx; subst e2; simp [notStr] at hns; done)
              | (obtain ⟨a, cap, e2, _⟩ := hx; cases e2; done)
              | (obtain ⟨a, e2⟩ := hx; cases e2; done)
              | (rcases hx with ⟨y, _, ⟨_, e2⟩ | ⟨_, _, a, e2⟩⟩ | ⟨_, _, _, a, e2⟩ <;> cases e2; done)
              | (obtain ⟨y, a, cap, _, _, e2, _⟩ := hx; cases e2; done)
              | simp [rowsOf] at hr
          · cases e1
        have hblk := hi.blk tag _ hk
        simp only [BlkR] at hblk
        have hsz : ∀ w', (sizeOf e).run P w' = .ok (P.cellsOf e) w' := fun w' => run_siz' (by omega) w'
        obtain ⟨us, g1, g2, g3, g4⟩ := src_run_n (P := P) (n := min ys.length len) hsrc hzz hns' (Nat.min_le_left _ _)
        have hlen : ∀ r ∈ ys, r.length = P.cellsOf e := by
          intro r hr'
          rcases hzz with rfl | rfl
          · exact src_len (x := x) hi hsrc r hr'
          · simp at hr'
        have g4' : (Builtin.firstCells (P.cellsOf e) (Nat.min ys.length len) xc).run P w = .ok us.toArray w := g4
        simp only [VR] at hd
        rcases hblk with ⟨h1, rfl⟩ | ⟨b, cap, cs, e', h1, h2, h3, h4, h5, h6, h7, h8⟩
        · -- nothing to copy to
          simp at hle
          obtain ⟨rfl, rfl⟩ := hle
          have hus : us = [] := List.eq_nil_of_length_eq_zero (by simpa using g2)
          subst hus
          rcases hd with ⟨y, hy, _⟩ | ⟨_, _, _, a, rfl⟩
          · rw [hy] at h1; simp at h1
          · refine ⟨.int .i64 0, w, β, I, ?_, by simp [VR, scalar], ?_, Step.refl _ _ _, Keeps.refl _⟩
            · have g4'' : (Builtin.firstCells (P.cellsOf e) 0 xc).run P w = .ok #[] w := by simpa using g4'
              cases a <;> simp [Builtin.copy_, run_und hu, g3, hsz, g4'', storeCells, goInt]
            · have : σ.set tag (.rows (P.cellsOf e) (setL [] 0 (ys.take (min ys.length 0))) false) = σ := by
                simp [setL]
                exact set_same hk
              rw [this]
              exact hi
        · have hcell_in : ∀ o v, I b o = some v → False := fun o v hv => by rw [h8 o (.inl (by simp))] at hv; cases hv
          rcases hd with ⟨y, hy, ⟨hcap, rfl⟩ | ⟨rfl, hcap, a, rfl⟩⟩ | ⟨hy, _⟩
          · rw [hy] at h1
            simp at h1
            subst h1
            simp only at hcap ⊢
            have hfit : off * P.cellsOf e + us.length ≤ cs.size := by
              rw [g2, h3, ← Nat.add_mul]
              exact Nat.mul_le_mul_right _ (by have := Nat.min_le_right ys.length len; omega)
            have hst := run_storeCells_at (P := P) b (off * P.cellsOf e) e' us 0 cs w h2 (by simpa using hfit) g1.ones
            simp only [Nat.add_zero] at hst
            refine ⟨.int .i64 (min ys.length len : Nat), w.setRow b (setL cs.toList (off * P.cellsOf e) us).toArray, β, I, ?_, by simp [VR, scalar], ?_, ?_, Keeps.refl _⟩
            · simp only [Builtin.copy_, List.getElem?_toArray, List.getElem?_cons_zero, List.getElem?_cons_succ, Sem.run_bind, run_und hu, Result.andThen_ok, g3, hsz, g4', hst, Sem.run_pure]
              rfl
            · refine hi.upd hy (by simp) (fun b' _ hne => setRow_other w b b' _ hne) (fun o' v hv => (hcell_in o' v hv).elim) _ ?_
              simp only [BlkR]
              have hbnd : (off + min ys.length len) * P.cellsOf e ≤ xs.length * P.cellsOf e := Nat.mul_le_mul_right _ (by have := Nat.min_le_right ys.length len; omega)
              rw [Nat.add_mul] at hbnd
              have htk : (ys.take (min ys.length len)).length = min ys.length len := by simp; try omega
              have hsl : (setL xs off (ys.take (min ys.length len))).length = xs.length := setL_length (by rw [htk]; have := Nat.min_le_right ys.length len; omega)
              refine .inr ⟨b, cap, _, e', hy, setRow_heap w b cs _ e' (0, 0) h2, ?_, by rw [hsl]; exact h4, h5, fun r hr' => ?_, ?_, fun o' _ => h8 o' (.inl (by simp))⟩
              · rw [List.size_toArray, setL_length (by simpa using hfit), Array.length_toList, h3]
              · unfold setL at hr'
                simp only [List.mem_append] at hr'
                rcases hr' with (hr' | hr') | hr'
                · exact h6 r (List.mem_of_mem_take hr')
                · exact hlen r (List.mem_of_mem_take hr')
                · exact h6 r (List.mem_of_mem_drop hr')
              · rw [hsl, flatten_setL h6 (fun r hr' => hlen r (List.mem_of_mem_take hr')), setL_take (by rw [g2]; exact hbnd) (by rw [Array.length_toList]; omega)]
                exact h7.setL g1 _
            · exact Step.upd hy rfl rfl rfl (by simp) (fun b' _ hne => setRow_other w b b' _ hne)
          · -- an empty one
            have hus : us = [] := List.eq_nil_of_length_eq_zero (by simpa using g2)
            subst hus
            refine ⟨.int .i64 0, w, β, I, ?_, by simp [VR, scalar], ?_, Step.refl _ _ _, Keeps.refl _⟩
            · have g4'' : (Builtin.firstCells (P.cellsOf e) 0 xc).run P w = .ok #[] w := by simpa using g4'
              cases a <;> simp [Builtin.copy_, run_und hu, g3, hsz, g4'', storeCells, goInt]
            · have : σ.set tag (.rows (P.cellsOf e) (setL xs off (ys.take (min ys.length 0))) false) = σ := by
                simp only [Nat.min_zero, List.take_zero, setL, List.append_nil, List.length_nil, Nat.add_zero, List.take_append_drop]
                exact set_same hk
              rw [this]
              exact hi
          · rw [hy] at h1; simp at h1
      · simp at h
    · simp at h
  · rename_i e tag off len z zy ys hu hr
    split at h
    · rename_i cells hk
      split at h
      · rename_i hc
        obtain ⟨rfl, hz, hns, hzz, hle, hlen⟩ := hc
        simp only [Option.some.injEq, Prod.mk.injEq] at h
        obtain ⟨rfl, rfl⟩ := h
        have hsrc := rowsOf_sound hi hr hx
        have hns' : ∀ s, xc ≠ .string s := by
          rintro s rfl
          rcases hsrc with ⟨s', e1, _⟩ | ⟨a, cap, e1, _⟩
          · cases x <;> simp only [VR, TR] at hx <;> first
              | (obtain ⟨e2, _⟩ := hx; subst e2; simp [notStr] at hns; done)
              | (obtain ⟨a, cap, e2, _⟩ := hx; cases e2; done)
              | (obtain ⟨a, e2⟩ := hx; cases e2; done)
              | (rcases hx with ⟨y, _, ⟨_, e2⟩ | ⟨_, _, a, e2⟩⟩ | ⟨_, _, _, a, e2⟩ <;> cases e2; done)
              | (obtain ⟨y, a, cap, _, _, e2, _⟩ := hx; cases e2; done)
              | simp [rowsOf] at hr
          · cases e1
        have hblk := hi.blk tag _ hk
        simp only [BlkR] at hblk
        obtain ⟨b, cs, e', h1, h2, h3, h4⟩ := hblk
        have hsz : ∀ w', (sizeOf e).run P w' = .ok (P.cellsOf e) w' := fun w' => run_siz' (by omega) w'
        obtain ⟨us, g1, g2, g3, g4⟩ := src_run_n (P := P) (n := min ys.length len) hsrc hzz hns' (Nat.min_le_left _ _)
        have g4' : (Builtin.firstCells (P.cellsOf e) (Nat.min ys.length len) xc).run P w = .ok us.toArray w := g4
        have hcl := h3.length
        simp only [VR] at hd
        obtain ⟨y, a, cap, hy, hcap, rfl, ha⟩ := hd
        rw [hy] at h1
        simp only [Option.some.injEq, BV.real.injEq] at h1
        subst h1
        rcases ha with rfl | rfl
        · have hus : us = [] := List.eq_nil_of_length_eq_zero (by simpa using g2)
          subst hus
          refine ⟨.int .i64 0, w, β, I, ?_, by simp [VR, scalar], ?_, Step.refl _ _ _, Keeps.refl _⟩
          · have g4'' : (Builtin.firstCells (P.cellsOf e) 0 xc).run P w = .ok #[] w := by simpa using g4'
            cases a <;> simp [Builtin.copy_, run_und hu, g3, hsz, g4'', storeCells, goInt]
          · have : σ.set tag (.box (setL cells off ((ys.take (min ys.length 0)).flatten.map T.toV)) false) = σ := by
              simp only [Nat.min_zero, List.take_zero, List.flatten_nil, List.map_nil, setL, List.append_nil, List.length_nil, Nat.add_zero, List.take_append_drop]
              exact set_same hk
            rw [this]
            exact hi
        · have hbnd : (min ys.length len) * P.cellsOf e ≤ len * P.cellsOf e := Nat.mul_le_mul_right _ (Nat.min_le_right _ _)
          have hfit : off + us.length ≤ cs.size := by
            rw [g2, ← Array.length_toList, ← hcl]
            omega
          have hst := run_storeCells_at (P := P) b off e' us 0 cs w h2 (by simpa using hfit) g1.ones
          simp only [Nat.add_zero] at hst
          have hvl : ((ys.take (min ys.length len)).flatten.map T.toV).length = us.length := by
            have := (TRl.toV (β := β) g1).length
            rw [this]
          refine ⟨.int .i64 (min ys.length len : Nat), w.setRow b (setL cs.toList off us).toArray, β, I, ?_, by simp [VR, scalar], ?_, ?_, Keeps.refl _⟩
          · simp only [Builtin.copy_, List.getElem?_toArray, List.getElem?_cons_zero, List.getElem?_cons_succ, Sem.run_bind, run_und hu, Result.andThen_ok, g3, hsz, g4', hst, Sem.run_pure]
            rfl
          · refine hi.upd hy (by simp) (fun b' _ hne => setRow_other w b b' _ hne) (fun o' v hv => by rw [h4 o' (.inl trivial)] at hv; cases hv) _ ?_
            simp only [BlkR]
            have hsl : (setL cells off ((ys.take (min ys.length len)).flatten.map T.toV)).length = cells.length := setL_length (by rw [hvl, hcl, Array.length_toList]; exact hfit)
            rw [hsl]
            exact ⟨b, _, e', hy, setRow_heap w b cs _ e' (0, 0) h2, h3.setL g1.toV _, h4⟩
          · exact Step.upd hy rfl rfl rfl (by simp) (fun b' _ hne => setRow_other w b b' _ hne)
      · simp at h
    · simp at h
  · simp at h
/-! ### clear -/
theorem aclear_sound (hi : Inv β I σ w) {t ty : TypeId} {d v : V} {dc : Value} {σ' : List Blk} (h : aclear P σ t d = some (v, σ')) (hd : VR β I d dc) : Gives P (Builtin.clear_ #[t] ty #[dc]) β I w v σ' [] := by
  unfold aclear at h
  split at h
  · rename_i e tag off len hu
    split at h
    · rename_i z xs hk
      split at h
      · rename_i hc
        obtain ⟨rfl, hz, hzo, hle⟩ := hc
        split at h
        · rename_i zt hzt
          simp only [Option.some.injEq, Prod.mk.injEq] at h
          obtain ⟨rfl, rfl⟩ := h
          rw [Option.bind_eq_some_iff] at hzt
          obtain ⟨zc, hz1, hz2⟩ := hzt
          rw [Option.bind_eq_some_iff] at hz1
          obtain ⟨zv, hz3, hz4⟩ := hz1
          obtain ⟨zx, hz5, hz6, hz7⟩ := zeroV_run (β := β) (I := I) hz3 w
          obtain ⟨i, zv', hi', hzr, hzs, hbi⟩ := zok_zero hzo
          obtain rfl : zv' = zx := by have := hzr w; rw [hz5] at this; injection this with e1; exact e1.symm
          have htr := scalTs_sound hz2 (hz6.cells hz4)
          have hzlen : zt.length = P.cellsOf e := by rw [htr.length, Array.length_toList, hzs]
          have hzpos : 0 < zv'.cells.size := by omega
          have hcells := init_cells zv'.cells len hzpos
          have hblk := hi.blk tag _ hk
          simp only [BlkR] at hblk
          simp only [VR] at hd
          have empty : len = 0 → σ.set tag (.rows (P.cellsOf e) (setL xs off (List.replicate len zt)) false) = σ := by
            rintro rfl
            simp only [List.replicate_zero, setL, List.append_nil, List.length_nil, Nat.add_zero, List.take_append_drop]
            exact set_same hk
          have keep : len = 0 → ∀ {x : Value}, (∃ a n, x = .slice a 0 n) → Gives P (Builtin.clear_ #[t] ty #[x]) β I w (.tuple []) (σ.set tag (.rows (P.cellsOf e) (setL xs off (List.replicate len zt)) false)) [] := by
            rintro h0 x ⟨a, n, rfl⟩
            refine ⟨.tuple #[], w, β, I, ?_, by simp [VR, VRs], by rw [empty h0]; exact hi, Step.refl _ _ _, Keeps.refl _⟩
            cases a <;> simp [Builtin.clear_, run_und hu]
          rcases hblk with ⟨h1, rfl⟩ | ⟨b, cap, cs, e', h1, h2, h3, h4, h5, h6, h7, h8⟩
          · simp at hle
            obtain ⟨rfl, rfl⟩ := hle
            rcases hd with ⟨y, hy, _⟩ | ⟨_, _, _, a, rfl⟩
            · rw [hy] at h1; simp at h1
            · exact keep rfl ⟨a, 0, rfl⟩
          · have hcell_in : ∀ o v, I b o = some v → False := fun o v hv => by rw [h8 o (.inl (by simp))] at hv; cases hv
            rcases hd with ⟨y, hy, ⟨hcap, rfl⟩ | ⟨rfl, hcap, a, rfl⟩⟩ | ⟨hy, _⟩
            · rw [hy] at h1
              simp at h1
              subst h1
              rcases Nat.eq_zero_or_pos len with h0 | h0
              · subst h0
                exact keep rfl ⟨_, _, rfl⟩
              simp only at hcap ⊢
              have g1 := htr.rep len
              obtain ⟨us, hus⟩ : ∃ us, (List.replicate len zv'.cells.toList).flatten = us := ⟨_, rfl⟩
              rw [hus] at g1
              have hul : us.length = len * P.cellsOf e := by rw [← hus]; simp [hzs]
              have hfit : off * P.cellsOf e + us.length ≤ cs.size := by
                rw [hul, h3, ← Nat.add_mul]
                exact Nat.mul_le_mul_right _ (by omega)
              have hst := run_storeCells_at (P := P) b (off * P.cellsOf e) e' us 0 cs w h2 (by simpa using hfit) g1.ones
              simp only [Nat.add_zero] at hst
              have hzc : (Builtin.zeroCells zv'.cells len).toList = us := by rw [← hus, ← hcells]; rfl
              refine ⟨.tuple #[], w.setRow b (setL cs.toList (off * P.cellsOf e) us).toArray, β, I, ?_, by simp [VR, VRs], ?_, ?_, Keeps.refl _⟩
              · obtain ⟨m, rfl⟩ : ∃ m, len = m + 1 := ⟨len - 1, by omega⟩
                simp only [Builtin.clear_, List.getElem?_toArray, List.getElem?_cons_zero, Sem.run_bind, run_und hu, Result.andThen_ok, hzr, hzc, hst, Sem.run_pure]
                rfl
              · refine hi.upd hy (by simp) (fun b' _ hne => setRow_other w b b' _ hne) (fun o' v hv => (hcell_in o' v hv).elim) _ ?_
                simp only [BlkR]
                have hbnd : (off + len) * P.cellsOf e ≤ xs.length * P.cellsOf e := Nat.mul_le_mul_right _ hle
                rw [Nat.add_mul] at hbnd
                have hsl : (setL xs off (List.replicate len zt)).length = xs.length := setL_length (by simpa using hle)
                have hlen : ∀ r ∈ List.replicate len zt, r.length = P.cellsOf e := fun r hr => by rw [List.eq_of_mem_replicate hr]; exact hzlen
                refine .inr ⟨b, cap, _, e', hy, setRow_heap w b cs _ e' (0, 0) h2, ?_, by rw [hsl]; exact h4, h5, fun r hr' => ?_, ?_, fun o' _ => h8 o' (.inl (by simp))⟩
                · rw [List.size_toArray, setL_length (by simpa using hfit), Array.length_toList, h3]
                · unfold setL at hr'
                  simp only [List.mem_append] at hr'
                  rcases hr' with (hr' | hr') | hr'
                  · exact h6 r (List.mem_of_mem_take hr')
                  · exact hlen r hr'
                  · exact h6 r (List.mem_of_mem_drop hr')
                · rw [hsl, flatten_setL h6 hlen, setL_take (by rw [hul]; exact hbnd) (by rw [Array.length_toList]; omega)]
                  exact h7.setL g1 _
              · exact Step.upd hy rfl rfl rfl (by simp) (fun b' _ hne => setRow_other w b b' _ hne)
            · exact keep rfl ⟨_, _, rfl⟩
            · rw [hy] at h1; simp at h1
        · simp at h
      · simp at h
    · simp at h
  · simp at h
end
end Go.Ai
