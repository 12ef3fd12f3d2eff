/- A part of an interpreter of the language over data, and the proof that what it answers is what the machine does; no condition. -/
import Derived.Test.YtgppcipkllkgbaaAiS6
set_option linter.unusedVariables false
set_option linter.unusedSimpArgs false
namespace Go.Ai

section
variable {P : Program} {β : Nat → Option BV} {I : Imm} {w : World} {σ : List Blk}

structure AppendOK (P : Program) (t u e : TypeId) (ud : TypeDesc) : Prop where
  ht : P.underlying t = some (.slice e)
  hu : P.underlying u = some ud
  hui : isIntD ud = false
  hz : 0 < P.cellsOf e
  hby : 0 < P.bytesOf e
  hzok : zok P e = true

theorem zok_zero {e : TypeId} (h : zok P e = true) : ∃ i zv, P.info? e = some i ∧ (∀ w, (zeroValue e).run P w = .ok zv w) ∧ zv.cells.size = P.cellsOf e ∧ P.bytesOf e = i.bytes := by
  unfold zok at h
  cases hzi : (P.info? e).bind (·.zero) with
  | none => simp [hzi] at h
  | some zv =>
    simp only [hzi, beq_iff_eq] at h
    obtain ⟨i, hi, hz0⟩ := Option.bind_eq_some_iff.1 hzi
    exact ⟨i, zv, hi, fun w' => by simp [zeroValue, typeInfo, hi, hz0], h, by simp [Program.bytesOf, hi]⟩

/-- A new row behind 'append'. -/
theorem append_new {t u e : TypeId} {ud : TypeDesc} {ty : TypeId} (A : AppendOK P t u e ud) {z : Nat} {ys xs : List (List T)} {c : Value} (hsrc : Src I w z ys c) (hzz : z = P.cellsOf e ∨ ys = []) (base : Option Addr) (len cap : Nat) {olds : List Value}
    (hold : (Builtin.firstCells (P.cellsOf e) len (.slice base len cap)).run P w.drew = .ok olds.toArray w.drew) (hox : TRl I xs.flatten olds) (hol : olds.length = len * P.cellsOf e) (hroom : ¬ len + ys.length ≤ cap) (hb : (len + ys.length) * P.bytesOf e ≤ 140737488355328) :
    ∃ cells : Array Value, ∃ newCap, len + ys.length ≤ newCap ∧ newCap ≤ maxLen ∧ cells.size = newCap * P.cellsOf e ∧ TRl I (xs ++ ys).flatten (cells.toList.take ((len + ys.length) * P.cellsOf e)) ∧
      (Builtin.append_ #[t, u] ty #[.slice base len cap, c]).run P w = .ok (.slice (some ⟨w.heap.size, 0, none⟩) (len + ys.length) newCap) (w.drew.alloc (.cells cells e)) := by
  obtain ⟨us, h1, h2, h3, h4⟩ := src_run (P := P) hsrc hzz
  obtain ⟨i, zv, hi, hzr, hzs, hbi⟩ := zok_zero A.hzok
  have hsz : ∀ w', (sizeOf e).run P w' = .ok (P.cellsOf e) w' := fun w' => run_siz' (Nat.pos_iff_ne_zero.1 A.hz) w'
  have hfit := growslice_fits (by omega : cap < len + ys.length) hb
  have hm : len + ys.length ≤ maxLen := by
    have : len + ys.length ≤ (len + ys.length) * P.bytesOf e := Nat.le_mul_of_pos_right _ A.hby
    simp only [maxLen]
    omega
  have hge := grownCap_ge w (len + ys.length) cap e
  have hrun := append_grow (i := i) (ty := ty) A.ht hsz A.hu A.hui (fun w' => by simp [typeInfo, hi]) hzr base len cap c w h3 (h4 w.drew fun _ => rfl) hold hroom (by have := A.hby; omega) (by rw [hbi] at hfit; omega)
  refine ⟨_, _, hge, grownCap_le_maxLen _ _ _ _ hm, ?_, ?_, hrun⟩
  · simp only [Array.size_append, List.size_toArray, size_zeroCells, hzs, hol, h2, ← Nat.add_mul]
    congr 1
    omega
  · simp only [Array.toList_append, List.flatten_append]
    have hl : (len + ys.length) * P.cellsOf e = (olds ++ us).length := by rw [List.length_append, hol, h2, Nat.add_mul]
    rw [hl, List.take_left]
    exact hox.append h1

theorem emp_cells (a : Option Addr) (cap size : Nat) (w : World) : (Builtin.firstCells size 0 (.slice a 0 cap)).run P w = .ok ([] : List Value).toArray w := by
  cases a <;> simp [Builtin.firstCells, loadCells, loadCellsFrom]

/-- Nothing appended to an empty slice without room. -/
theorem append_none {t u e : TypeId} {ud : TypeDesc} {ty : TypeId} (A : AppendOK P t u e ud) {z : Nat} {c : Value} (hsrc : Src I w z [] c) (a : Option Addr) :
    (Builtin.append_ #[t, u] ty #[.slice a 0 0, c]).run P w = .ok (.slice a 0 0) w := by
  obtain ⟨us, h1, h2, h3, h4⟩ := src_run (P := P) (size := P.cellsOf e) hsrc (.inr rfl)
  have hsz : ∀ w', (sizeOf e).run P w' = .ok (P.cellsOf e) w' := fun w' => run_siz' (Nat.pos_iff_ne_zero.1 A.hz) w'
  obtain rfl : us = [] := List.eq_nil_of_length_eq_zero (by simpa using h2)
  have hrun := append_room (ty := ty) A.ht hsz A.hu A.hui a 0 0 c w h3 (h4 w fun _ => rfl) (by simp)
  rw [hrun]
  cases a <;> simp [storeCells]

theorem aappend_fresh (hi : Inv β I σ w) {t u e : TypeId} {ud : TypeDesc} {ty : TypeId} (A : AppendOK P t u e ud) {z : Nat} {ys : List (List T)} {c : Value} (hsrc : Src I w z ys c) (hzz : z = P.cellsOf e ∨ ys = []) (hlen : ∀ r ∈ ys, r.length = P.cellsOf e) (a : Option Addr)
    (hb : ys.length * P.bytesOf e ≤ 140737488355328) : Gives P (Builtin.append_ #[t, u] ty #[.slice a 0 0, c]) β I w (.own σ.length 0 ys.length) (σ ++ [.rows (P.cellsOf e) ys false]) [] := by
  have hnone := hi.none_ge (Nat.le_refl σ.length)
  rcases Nat.eq_zero_or_pos ys.length with h0 | h0
  · obtain rfl : ys = [] := List.eq_nil_of_length_eq_zero h0
    refine ⟨_, w, ext β σ.length .virt, I, append_none A hsrc a, ?_, ?_, ?_, Keeps.ext hnone⟩
    · simp only [VR]; exact .inr ⟨ext_self _ _ _, by simp, by simp, a, rfl⟩
    · exact hi.push (Nat.le_refl _) (fun _ _ => rfl) _ _ (fun y hy => by cases hy) (by simp only [BlkR]; exact .inl ⟨ext_self _ _ _, trivial⟩)
    · exact Step.push hi rfl rfl rfl (Nat.le_refl _) (fun _ _ => rfl) _ (fun y hy => by cases hy)
  · obtain ⟨cells, newCap, h1, h2, h3, h4, h5⟩ := append_new (ty := ty) A hsrc hzz a 0 0 (xs := []) (emp_cells a 0 _ _) (by simp [TRl]) (by simp) (by omega) (by simpa using hb)
    simp only [Nat.zero_add, List.nil_append] at h1 h4 h5
    obtain ⟨i1, s1⟩ := (hi.drew).new (.rows (P.cellsOf e) ys false) ⟨w.heap.size, newCap, P.cellsOf e⟩ cells e rfl (fun β' hb1 hb2 => by
      simp only [BlkR]
      exact .inr ⟨w.heap.size, newCap, cells, e, hb1, alloc_new _ _, h3, h1, h2, hlen, h4, fun o _ => Imm.none_new hi o⟩)
    refine ⟨_, _, _, I, h5, ?_, i1, (Step.drew β I w).trans s1, Keeps.ext hnone⟩
    simp only [VR]
    exact .inl ⟨_, ext_self _ _ _, .inl ⟨by simpa using h1, by simp⟩⟩

theorem src_len (hi : Inv β I σ w) {x : V} {c : Value} {z : Nat} {ys : List (List T)} (h : Src I w z ys c) : ∀ r ∈ ys, r.length = z := by
  rcases h with ⟨s, rfl, rfl, rfl⟩ | ⟨a, cap, rfl, h⟩
  · intro r hr
    simp only [List.mem_map] at hr
    obtain ⟨b, _, rfl⟩ := hr
    rfl
  · rcases h with rfl | ⟨b, o, us, rfl, h1, _⟩
    · simp
    · exact h1

/-- A row of one's own that grows into a new block. -/
theorem aappend_move (hi : Inv β I σ w) {t u e : TypeId} {ud : TypeDesc} {ty : TypeId} (A : AppendOK P t u e ud) {z : Nat} {ys xs : List (List T)} {c : Value} (hsrc : Src I w z ys c) (hzz : z = P.cellsOf e ∨ ys = []) (hlen : ∀ r ∈ xs ++ ys, r.length = P.cellsOf e)
    {tag : Nat} {ro : Bool} (hk : σ[tag]? = some (.rows (P.cellsOf e) xs ro)) (base : Option Addr) (cap : Nat) {olds : List Value}
    (hold : (Builtin.firstCells (P.cellsOf e) xs.length (.slice base xs.length cap)).run P w.drew = .ok olds.toArray w.drew) (hox : TRl I xs.flatten olds) (hol : olds.length = xs.length * P.cellsOf e) (hroom : ¬ xs.length + ys.length ≤ cap) (hb : (xs.length + ys.length) * P.bytesOf e ≤ 140737488355328) :
    Gives P (Builtin.append_ #[t, u] ty #[.slice base xs.length cap, c]) β I w (.own tag 0 (xs.length + ys.length)) ((σ.set tag (.rows (P.cellsOf e) (xs ++ ys) ro)).map (Blk.pz [tag])) [tag] := by
  obtain ⟨cells, newCap, h1, h2, h3, h4, h5⟩ := append_new (ty := ty) A hsrc hzz base xs.length cap hold hox hol hroom hb
  have hlt := (List.getElem?_eq_some_iff.1 hk).1
  have hh : ∀ b, b < w.heap.size → (w.drew.alloc (.cells cells e)).heap[b]? = w.heap[b]? := fun b hb => alloc_old w.drew _ hb
  refine ⟨_, _, ext β tag (.real ⟨w.heap.size, newCap, P.cellsOf e⟩), I, h5, ?_, ?_, ?_, Keeps.extMv⟩
  · simp only [VR]
    exact .inl ⟨_, ext_self _ _ _, .inl ⟨by simpa using h1, by simp⟩⟩
  · refine hi.move hlt _ _ (by simp) (fun b hb _ => hh b hb) (fun x o v hx hv => ?_) (fun y hy => ?_) ?_
    · rw [cell_of_heap (hh _ (hi.ilt hv))]; exact hi.imm _ _ _ hv
    · injection hy with hy; subst hy; exact ⟨.inr (Nat.le_refl _), by simp⟩
    · simp only [Blk.pz, BlkR]
      exact .inr ⟨w.heap.size, newCap, cells, e, ext_self _ _ _, alloc_new w.drew _, h3, by simpa using h1, h2, hlen, by simpa using h4, fun o _ => Imm.none_new hi o⟩
  · exact Step.move (w' := w.drew.alloc (.cells cells e)) hi _ rfl rfl rfl (by simp) (fun b hb _ => hh b hb) (fun y hy => by injection hy with hy; subst hy; exact .inr (Nat.le_refl _))

theorem aappend_sound (hi : Inv β I σ w) {t u ty : TypeId} {s x v : V} {sc xc : Value} {σ' : List Blk} {mv : List Nat} (h : aappend P σ t u s x = some (v, σ', mv)) (hs : VR β I s sc) (hx : VR β I x xc) :
    Gives P (Builtin.append_ #[t, u] ty #[sc, xc]) β I w v (σ'.map (Blk.pz mv)) mv := by
  unfold aappend at h
  split at h
  · rename_i e ud ht hu
    split at h
    · simp at h
    · rename_i hc
      simp only [not_or, Bool.not_eq_true, Bool.not_eq_false] at hc
      have A : AppendOK P t u e ud := ⟨ht, hu, hc.1, Nat.pos_of_ne_zero hc.2.1, Nat.pos_of_ne_zero hc.2.2.1, hc.2.2.2⟩
      split at h
      · simp at h
      · rename_i zy ys hr
        split at h
        · simp at h
        · rename_i hzz
          have hzz : zy = P.cellsOf e ∨ ys = [] := Classical.not_not.1 hzz
          have hsrc := rowsOf_sound hi hr hx
          have hlen : ∀ r ∈ ys, r.length = P.cellsOf e := by
            intro r hr'
            rcases hzz with rfl | rfl
            · exact src_len (x := x) hi hsrc r hr'
            · simp at hr'
          split at h
          · -- a row of one's own
            rename_i tag len
            split at h
            · rename_i z xs ro hk
              split at h
              · rename_i hcond
                obtain ⟨rfl, rfl, hb⟩ := hcond
                simp only [Option.some.injEq, Prod.mk.injEq] at h
                obtain ⟨rfl, rfl, rfl⟩ := h
                have hblk := hi.blk tag _ hk
                simp only [BlkR] at hblk
                have hlt := (List.getElem?_eq_some_iff.1 hk).1
                have hall : ∀ hx6 : (∀ r ∈ xs, r.length = P.cellsOf e), ∀ r ∈ xs ++ ys, r.length = P.cellsOf e := fun h6 r hr' => by
                  rcases List.mem_append.1 hr' with h | h
                  · exact h6 r h
                  · exact hlen r h
                simp only [VR] at hs
                rcases hs with ⟨y, hy, ⟨hcap, rfl⟩ | ⟨h0, hcap, a, rfl⟩⟩ | ⟨hy, _, h0, a, rfl⟩
                · rcases hblk with ⟨h1, _⟩ | ⟨b, cap, cs, e', h1, h2, h3, h4, h5, h6, h7, h8⟩
                  · rw [hy] at h1; simp at h1
                  · rw [hy] at h1
                    simp at h1
                    subst h1
                    simp only [Nat.zero_mul, Nat.sub_zero] at hcap ⊢
                    have hol : (cs.toList.take (xs.length * P.cellsOf e)).length = xs.length * P.cellsOf e := by
                      have : xs.length * P.cellsOf e ≤ cap * P.cellsOf e := Nat.mul_le_mul_right _ h4
                      simp
                      omega
                    by_cases hroom : xs.length + ys.length ≤ cap
                    · -- there is room
                      obtain ⟨us, g1, g2, g3, g4⟩ := src_run (P := P) hsrc hzz
                      have hsz : ∀ w', (sizeOf e).run P w' = .ok (P.cellsOf e) w' := fun w' => run_siz' (Nat.pos_iff_ne_zero.1 A.hz) w'
                      have hrun := append_room (ty := ty) A.ht hsz A.hu A.hui (some ⟨b, 0, none⟩) xs.length cap xc w g3 (g4 w fun _ => rfl) hroom
                      have hfit : xs.length * P.cellsOf e + us.length ≤ cs.size := by
                        rw [g2, h3, ← Nat.add_mul]; exact Nat.mul_le_mul_right _ hroom
                      have hst := run_storeCells_at (P := P) b (xs.length * P.cellsOf e) e' us 0 cs w h2 (by simpa using hfit) (g1.ones)
                      have hrun' : (Builtin.append_ #[t, u] ty #[.slice (some ⟨b, 0, none⟩) xs.length cap, xc]).run P w = .ok (.slice (some ⟨b, 0, none⟩) (xs.length + ys.length) cap) (w.setRow b (setL cs.toList (xs.length * P.cellsOf e) us).toArray) := by
                        rw [hrun]
                        simp only [addr_add, Nat.zero_add, hst, Result.andThen_ok, Nat.add_zero]
                        rfl
                      have hsl : (setL cs.toList (xs.length * P.cellsOf e) us).length = cs.toList.length := setL_length (by simpa using hfit)
                      refine ⟨_, _, ext β tag (.real ⟨b, cap, P.cellsOf e⟩), I, hrun', ?_, ?_, ?_, Keeps.extMv⟩
                      · simp only [VR]
                        exact .inl ⟨_, ext_self _ _ _, .inl ⟨by simpa using hroom, by simp⟩⟩
                      · refine hi.move hlt _ _ (by simp) (fun b' _ hne => setRow_other w b b' _ (fun e => hne _ hy e.symm)) (fun x o v hx hv => ?_) (fun y hy' => ?_) ?_
                        · rw [hy] at hx
                          simp at hx
                          subst hx
                          have ho : o < xs.length * P.cellsOf e := by
                            rcases Nat.lt_or_ge o (xs.length * P.cellsOf e) with h | h
                            · exact h
                            · have := h8 o (.inr h); rw [this] at hv; cases hv
                          have hcell := hi.imm _ _ _ hv
                          rw [cell_setRow_same w b o cs _ e' (0, 0) h2]
                          have : cs[o]? = some v := by simpa [World.cell?, h2] using hcell
                          rw [List.getElem?_toArray]
                          unfold setL
                          rw [List.append_assoc, List.getElem?_append_left (by simp; omega), List.getElem?_take, if_pos ho]
                          simpa using this
                        · injection hy' with hy'; subst hy'
                          exact ⟨.inl ⟨_, hy, rfl⟩, by simpa using hi.blt hy⟩
                        · simp only [Blk.pz, BlkR]
                          refine .inr ⟨b, cap, _, e', ext_self _ _ _, setRow_heap w b cs _ e' (0, 0) h2, ?_, by simpa using hroom, h5, hall h6, ?_, fun o ho => h8 o ?_⟩
                          · rw [List.size_toArray, hsl, Array.length_toList, h3]
                          · simp only [List.flatten_append, List.length_append, Nat.add_mul]
                            unfold setL
                            have hl : xs.length * P.cellsOf e + ys.length * P.cellsOf e = (cs.toList.take (xs.length * P.cellsOf e) ++ us).length := by rw [List.length_append, hol, g2]
                            rw [hl, List.take_left]
                            exact h7.append g1
                          · rcases ho with ho | ho
                            · exact .inl ho
                            · right
                              simp only [List.length_append, Nat.add_mul] at ho
                              omega
                      · exact Step.move (w' := w.setRow b _) hi _ rfl rfl rfl (by simp) (fun b' _ hne => setRow_other w b b' _ (fun e => hne _ hy e.symm)) (fun y hy' => by injection hy' with hy'; subst hy'; exact .inl ⟨_, hy, rfl⟩)
                    · -- there is none
                      refine aappend_move hi A hsrc hzz (hall h6) hk (some ⟨b, 0, none⟩) cap (olds := cs.toList.take (xs.length * P.cellsOf e)) ?_ h7 hol hroom hb
                      have := run_loadCells_list (P := P) w.drew ⟨b, 0, none⟩ (cs.toList.take (xs.length * P.cellsOf e)) (fun j v hv => by
                        rw [addr_add, Nat.zero_add, cell_drew]
                        rw [List.getElem?_take] at hv
                        split at hv
                        · simp [World.cell?, h2, ← Array.getElem?_toList, hv]
                        · simp at hv)
                      rw [hol] at this
                      simpa [Builtin.firstCells] using this
                · -- an empty one, without room
                  obtain rfl : xs = [] := List.eq_nil_of_length_eq_zero h0
                  have h6 : ∀ r ∈ ([] : List (List T)), r.length = P.cellsOf e := by simp
                  rcases Nat.eq_zero_or_pos ys.length with hy0 | hy0
                  · obtain rfl : ys = [] := List.eq_nil_of_length_eq_zero hy0
                    refine ⟨_, w, ext β tag (.real y), I, append_none A hsrc a, ?_, ?_, ?_, Keeps.extMv⟩
                    · simp only [VR]; exact .inl ⟨_, ext_self _ _ _, .inr ⟨by simp, hcap, a, rfl⟩⟩
                    · refine hi.move hlt _ _ (Nat.le_refl _) (fun _ _ _ => rfl) (fun x o v _ hv => hi.imm _ _ _ hv) (fun y' hy' => ?_) ?_
                      · injection hy' with hy'; subst hy'; exact ⟨.inl ⟨_, hy, rfl⟩, hi.blt hy⟩
                      · simp only [Blk.pz, BlkR]
                        rcases hblk with ⟨h1, _⟩ | ⟨b, cap, cs, e', h1, h2, h3, h4, h5, h6', h7, h8⟩
                        · rw [hy] at h1; simp at h1
                        · rw [hy] at h1
                          simp at h1
                          subst h1
                          exact .inr ⟨b, cap, cs, e', ext_self _ _ _, h2, h3, by simp, h5, by simp, by simp [TRl], fun o ho => h8 o ho⟩
                    · exact Step.move (w' := w) hi _ rfl rfl rfl (Nat.le_refl _) (fun _ _ _ => rfl) (fun y' hy' => by injection hy' with hy'; subst hy'; exact .inl ⟨_, hy, rfl⟩)
                  · exact aappend_move hi A hsrc hzz (hall h6) hk a 0 (olds := []) (emp_cells a 0 _ _) (by simp [TRl]) (by simp) (by simp only [List.length_nil]; omega) hb
                · -- nil, or empty without room
                  obtain rfl : xs = [] := List.eq_nil_of_length_eq_zero h0
                  have h6 : ∀ r ∈ ([] : List (List T)), r.length = P.cellsOf e := by simp
                  rcases Nat.eq_zero_or_pos ys.length with hy0 | hy0
                  · obtain rfl : ys = [] := List.eq_nil_of_length_eq_zero hy0
                    refine ⟨_, w, ext β tag .virt, I, append_none A hsrc a, ?_, ?_, ?_, Keeps.extMv⟩
                    · simp only [VR]; exact .inr ⟨ext_self _ _ _, by simp, by simp, a, rfl⟩
                    · refine hi.move hlt _ _ (Nat.le_refl _) (fun _ _ _ => rfl) (fun x o v _ hv => hi.imm _ _ _ hv) (fun y' hy' => by cases hy') ?_
                      simp only [Blk.pz, BlkR]
                      exact .inl ⟨ext_self _ _ _, by simp⟩
                    · exact Step.move (w' := w) hi _ rfl rfl rfl (Nat.le_refl _) (fun _ _ _ => rfl) (fun y' hy' => by cases hy')
                  · exact aappend_move hi A hsrc hzz (hall h6) hk a 0 (olds := []) (emp_cells a 0 _ _) (by simp [TRl]) (by simp) (by simp only [List.length_nil]; omega) hb
              · simp at h
            · simp at h
          · -- an empty one
            split at h
            · rename_i hb
              simp only [Option.some.injEq, Prod.mk.injEq] at h
              obtain ⟨rfl, rfl, rfl⟩ := h
              simp only [VR] at hs
              obtain ⟨a, rfl⟩ := hs
              have := aappend_fresh (ty := ty) hi A hsrc hzz hlen a hb
              have e1 : ∀ l : List Blk, l.map (Blk.pz []) = l := fun l => by induction l with | nil => rfl | cons k l ih => simp [Blk.pz_nil, ih]
              rw [e1]
              exact this
            · simp at h
          · split at h
            · rename_i hb
              simp only [Option.some.injEq, Prod.mk.injEq] at h
              obtain ⟨rfl, rfl, rfl⟩ := h
              simp only [VR] at hs
              obtain ⟨rfl, _⟩ := hs
              have := aappend_fresh (ty := ty) hi A hsrc hzz hlen none hb
              have e1 : ∀ l : List Blk, l.map (Blk.pz []) = l := fun l => by induction l with | nil => rfl | cons k l ih => simp [Blk.pz_nil, ih]
              rw [e1]
              exact this
            · simp at h
          · simp at h
  · simp at h

end
end Go.Ai
