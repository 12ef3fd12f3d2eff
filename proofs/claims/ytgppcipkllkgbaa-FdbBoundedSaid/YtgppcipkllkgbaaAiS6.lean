/- A part of an interpreter of the language over data, and the proof that what it answers is what the machine does; no condition. -/
import Derived.Test.YtgppcipkllkgbaaAiS5
import Derived.Lib.AppendStr
set_option linter.unusedVariables false
set_option linter.unusedSimpArgs false
namespace Go.Ai

section
variable {P : Program} {β : Nat → Option BV} {I : Imm} {w : World} {σ : List Blk}

/-! ### A string's bytes -/
theorem bytesTRl (I : Imm) : ∀ l : List UInt8, TRl I (l.map fun b => [T.s (.int .u8 (b.toNat : Int))]).flatten (l.map fun b => Value.int .u8 (b.toNat : Int))
  | [] => by simp [TRl]
  | b :: l => by simp only [List.map_cons, List.flatten_cons, List.cons_append, List.nil_append, TRl, TR]; exact ⟨⟨trivial, rfl⟩, bytesTRl I l⟩
theorem bytes_sound (hi : Inv β I σ w) {src dst e : TypeId} {sd : TypeDesc} (hs : P.underlying src = some sd) (hd : P.underlying dst = some (.slice e)) (he : P.underlying e = some (.int .u8)) (s : ByteArray) :
    Gives P (Go.convert src dst (.string s)) β I w (.sl 1 (s.data.toList.map fun b => [T.s (.int .u8 b.toNat)])) σ [] := by
  have hn : ∀ o, I w.heap.size o = none := Imm.none_new hi
  have hold : ∀ b, b < w.heap.size → (Lib.bytesWorld w e s).heap[b]? = w.heap[b]? := fun b hb => Lib.bytesWorld_at_old w e s b hb
  have hsz := Lib.bytesWorld_size w e s
  have hm : ∀ b o v, I b o = some v → (if b = w.heap.size ∧ o < s.size then some (.int .u8 ((s.data.toList.getD o 0).toNat : Int)) else I b o) = some v := by
    intro b o v hv
    rw [if_neg]
    · exact hv
    · rintro ⟨rfl, _⟩; rw [hn] at hv; cases hv
  refine ⟨_, _, β, fun b o => if b = w.heap.size ∧ o < s.size then some (.int .u8 ((s.data.toList.getD o 0).toNat : Int)) else I b o, Lib.run_convert_string_bytes w src dst e s hs hd he, ?_, ?_, ?_, Keeps.refl β⟩
  · have hl : s.data.toList.length = s.size := by rw [Array.length_toList]; rfl
    simp only [VR, TR, List.length_map]
    refine ⟨_, _, by rw [hl], by rw [hl]; exact grownCap_ge _ _ _ _, .inr ⟨w.heap.size, 0, rfl, ?_⟩⟩
    refine TRrows.of_cells (fun r hr => ?_) ?_
    · simp only [List.mem_map] at hr
      obtain ⟨b, _, rfl⟩ := hr
      rfl
    · refine TRcells.of_list (us := s.data.toList.map fun b => Value.int .u8 (b.toNat : Int)) (bytesTRl _ _) (fun j u hu => ?_)
      · rw [List.getElem?_map, Option.map_eq_some_iff] at hu
        obtain ⟨b, hb, rfl⟩ := hu
        have hj := (List.getElem?_eq_some_iff.1 hb).1
        rw [if_pos ⟨rfl, by omega⟩]
        simp [List.getD_eq_getElem?_getD, hb]
  · refine ⟨fun b o v hv => ?_, fun t k hk => ?_, fun t x hx => ?_, hi.inj⟩
    · split at hv
      · rename_i hc
        obtain ⟨rfl, hc⟩ := hc
        rw [Lib.bytesWorld_cell w e s o hc]
        exact hv
      · rw [cell_of_heap (hold b (hi.ilt hv))]; exact hi.imm b o v hv
    · refine BlkR.mono (Keeps.refl β) hm (hi.blk t k hk) (fun x hx => hold _ (hi.blt hx)) (fun x o hx ho => ?_)
      rw [if_neg]
      · exact ho
      · rintro ⟨h, _⟩; have := hi.blt hx; omega
    · obtain ⟨k, h1, h2⟩ := hi.live t x hx
      exact ⟨k, h1, fun y hy => by have := h2 y hy; omega⟩
  · refine ⟨rfl, rfl, rfl, by omega, fun b hb _ => hold b hb, hm, fun b o v hv => ?_, fun t x hx => .inl ⟨t, x, hx, rfl⟩, by first | exact Nat.le_refl _ | exact Nat.le_succ _ | (simp [Lib.bytesWorld]; done)⟩
    split at hv
    · rename_i hc
      exact .inr (.inr (by omega))
    · exact .inl hv

/-! ### append -/
theorem cell_drew (w : World) (a : Addr) : w.drew.cell? a = w.cell? a := rfl

theorem src_run {z size : Nat} {ys : List (List T)} {c : Value} (h : Src I w z ys c) (hz : z = size ∨ ys = []) :
    ∃ us, TRl I ys.flatten us ∧ us.length = ys.length * size ∧ (Builtin.lenOf c).run P w = .ok ys.length w ∧ (∀ w', (∀ a, w'.cell? a = w.cell? a) → (Builtin.firstCells size ys.length c).run P w' = .ok us.toArray w') := by
  rcases h with ⟨s, rfl, rfl, rfl⟩ | ⟨a, cap, rfl, h⟩
  · have hl : s.data.toList.length = s.size := by rw [Array.length_toList]; rfl
    have hz : size = 1 ∨ s.data.toList = [] := by
      rcases hz with hz | hz
      · exact .inl hz.symm
      · right; simpa using hz
    refine ⟨s.data.toList.map fun b => Value.int .u8 (b.toNat : Int), bytesTRl _ _, ?_, ?_, ?_⟩
    · rcases hz with rfl | hz
      · simp
      · simp [hz]
    · simp [Builtin.lenOf]
    · intro w' _
      have := Lib.run_firstCells_string (P := P) w' size s
      simpa [Lib.strCells] using this
  · rcases h with rfl | ⟨b, o, us, rfl, h1, h2, h3⟩
    · refine ⟨[], by simp [TRl], by simp, by simp [Builtin.lenOf], fun w' _ => ?_⟩
      cases a with
      | none => simp [Builtin.firstCells]
      | some a => simp [Builtin.firstCells, loadCells, loadCellsFrom]
    · have hl : us.length = ys.length * z := by rw [← h2.length, flatten_len h1]
      rcases hz with rfl | rfl
      · refine ⟨us, h2, hl, by simp [Builtin.lenOf], fun w' hw => ?_⟩
        have := run_loadCells_list (P := P) w' ⟨b, o, none⟩ us (fun j v hv => by rw [addr_add, hw]; exact h3 j v hv)
        rw [hl] at this
        simp [Builtin.firstCells, this]
      · have : us = [] := List.eq_nil_of_length_eq_zero (by simpa using hl)
        subst this
        exact ⟨[], by simp [TRl], by simp, by simp [Builtin.lenOf], fun w' _ => by simp [Builtin.firstCells, loadCells, loadCellsFrom]⟩

section
variable {t u e : TypeId} {ud : TypeDesc} {ty : TypeId}
set_option maxHeartbeats 4000000 in
theorem append_room (ht : P.underlying t = some (.slice e)) (hsz : ∀ w, (sizeOf e).run P w = .ok (P.cellsOf e) w) (hu : P.underlying u = some ud) (hui : isIntD ud = false) {n : Nat} {us : List Value}
    (base : Option Addr) (len cap : Nat) (c : Value) (w : World) (h3 : (Builtin.lenOf c).run P w = .ok n w) (h4 : (Builtin.firstCells (P.cellsOf e) n c).run P w = .ok us.toArray w) (hroom : len + n ≤ cap) :
    (Builtin.append_ #[t, u] ty #[.slice base len cap, c]).run P w = ((match base with | some a => storeCells (a.add (len * P.cellsOf e)) us | none => Pure.pure ()).run P w).andThen fun _ w' => .ok (.slice base (len + n) cap) w' := by
  cases base <;> cases ud <;> first
    | (simp [isIntD] at hui; done)
    | (simp only [Builtin.append_, List.getElem?_toArray, List.getElem?_cons_zero, List.getElem?_cons_succ, Sem.run_bind, run_und ht, run_und hu, Result.andThen_ok, hsz, Sem.run_pure, Bool.false_eq_true, if_false, Bool.not_false, if_true, h3, h4, hroom]
       done)

set_option maxHeartbeats 4000000 in
theorem append_grow (ht : P.underlying t = some (.slice e)) (hsz : ∀ w, (sizeOf e).run P w = .ok (P.cellsOf e) w) (hu : P.underlying u = some ud) (hui : isIntD ud = false) {i : TypeInfo} {zv : Value} (hi : ∀ w, (typeInfo e).run P w = .ok i w)
    (hz : ∀ w, (zeroValue e).run P w = .ok zv w) {n : Nat} {us olds : List Value} (base : Option Addr) (len cap : Nat) (c : Value) (w : World) (h3 : (Builtin.lenOf c).run P w = .ok n w) (h4 : (Builtin.firstCells (P.cellsOf e) n c).run P w.drew = .ok us.toArray w.drew)
    (hold : (Builtin.firstCells (P.cellsOf e) len (.slice base len cap)).run P w.drew = .ok olds.toArray w.drew) (hroom : ¬ len + n ≤ cap) (hb0 : i.bytes ≠ 0) (hfit : ¬ Builtin.nextslicecap (len + n) cap * i.bytes > 2 ^ 48) :
    (Builtin.append_ #[t, u] ty #[.slice base len cap, c]).run P w = .ok (.slice (some ⟨w.heap.size, 0, none⟩) (len + n) (grownCap w (len + n) cap e))
      (w.drew.alloc (.cells (olds.toArray ++ us.toArray ++ Builtin.zeroCells zv.cells (grownCap w (len + n) cap e - (len + n))) e)) := by
  have hcut : (Question.appendCap (len + n) cap e).cut (w.tape w.drawn (Question.appendCap (len + n) cap e)) = grownCap w (len + n) cap e := rfl
  have hch : (choose (Question.appendCap (len + n) cap e)).run P w = .ok (grownCap w (len + n) cap e) w.drew := by simp [Question.forced, hcut]
  cases ud <;> first
    | (simp [isIntD] at hui; done)
    | (simp only [Builtin.append_, List.getElem?_toArray, List.getElem?_cons_zero, List.getElem?_cons_succ, Sem.run_bind, run_und ht, run_und hu, Result.andThen_ok, hsz, Sem.run_pure, Bool.false_eq_true, if_false, Bool.not_false, if_true, h3, h4, hold, hroom, hi, hz, hb0, hfit, hch,
         and_false, or_false, false_or, run_askRoom, newRow, run_newObj]
       rfl)
end

end
end Go.Ai
