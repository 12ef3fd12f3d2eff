/- A part of an interpreter of the language over data, and the proof that what it answers is what the machine does; no condition. -/
import Derived.Test.YtgppcipkllkgbaaAiS1
import Derived.Laws.BytesArg
import Derived.Lib.ConvBytes
set_option linter.unusedVariables false
set_option linter.unusedSimpArgs false
namespace Go.Ai

section
variable {P : Program} {β : Nat → Option BV} {I : Imm} {w : World} {σ : List Blk}

theorem isByte_und {e : TypeId} (h : isByte P e = true) : P.underlying e = some (.int .u8) := by
  unfold isByte at h
  split at h
  · assumption
  · simp at h

theorem aun_sound {op : UnOp} {x v : V} {c : Value} (h : aun op x = some v) (hx : VR β I x c) (w : World) : ∃ r, (Op.unary op c).run P w = .ok r w ∧ VR β I v r := by
  unfold aun at h
  split at h
  · simp at h; subst h; simp only [VR] at hx; obtain ⟨rfl, _⟩ := hx
    exact ⟨_, by simp [Op.unary, Op.intArith]; rfl, by simp [VR, scalar]⟩
  · simp at h; subst h; simp only [VR] at hx; obtain ⟨rfl, _⟩ := hx
    exact ⟨_, by simp only [Op.unary, Op.intBits]; rfl, by simp [VR, scalar]⟩
  · simp at h; subst h; simp only [VR] at hx; obtain ⟨rfl, _⟩ := hx
    exact ⟨_, by simp [Op.unary]; rfl, by simp [VR, scalar]⟩
  · simp at h

theorem TRcells.list {b : Nat} : ∀ {ts : List T} {o : Nat}, TRcells I b o ts → ∃ us, TRl I ts us ∧ ∀ j u, us[j]? = some u → I b (o + j) = some u
  | [], o, _ => ⟨[], by simp [TRl], fun j u h => by simp at h⟩
  | t :: ts, o, h => by
    simp only [TRcells] at h
    obtain ⟨⟨u, h1, h2⟩, h3⟩ := h
    obtain ⟨us, h4, h5⟩ := TRcells.list h3
    refine ⟨u :: us, by simp only [TRl]; exact ⟨h2, h4⟩, fun j v hv => ?_⟩
    cases j with
    | zero => simp at hv; subst hv; exact h1
    | succ j => simp at hv; have := h5 j v hv; rwa [Nat.add_assoc, Nat.add_comm 1 j] at this

theorem chunkT_flat {z : Nat} : ∀ (n : Nat) (l : List T), l.length = n * z → (chunkT z n l).flatten = l ∧ (chunkT z n l).length = n ∧ ∀ r ∈ chunkT z n l, r.length = z
  | 0, l, h => by simp at h; subst h; simp [chunkT]
  | n + 1, l, h => by
    have h' : (l.drop z).length = n * z := by simp [h, Nat.add_mul]
    obtain ⟨h1, h2, h3⟩ := chunkT_flat n (l.drop z) h'
    refine ⟨by simp [chunkT, h1], by simp [chunkT, h2], fun r hr => ?_⟩
    simp only [chunkT, List.mem_cons] at hr
    rcases hr with rfl | hr
    · simp [h, Nat.add_mul]
    · exact h3 r hr

/-- What is read off a slice or a string. -/
def Src (I : Imm) (w : World) (z : Nat) (ys : List (List T)) (c : Value) : Prop :=
  (∃ s : ByteArray, c = .string s ∧ z = 1 ∧ ys = s.data.toList.map fun b => [T.s (.int .u8 b.toNat)]) ∨
  ∃ a cap, c = .slice a ys.length cap ∧ (ys = [] ∨ ∃ b o us, a = some ⟨b, o, none⟩ ∧ (∀ r ∈ ys, r.length = z) ∧ TRl I ys.flatten us ∧ ∀ j u, us[j]? = some u → w.cell? ⟨b, o + j, none⟩ = some u)

theorem rowsOf_sound (hi : Inv β I σ w) {x : V} {c : Value} {z : Nat} {ys : List (List T)} (h : rowsOf σ x = some (z, ys)) (hx : VR β I x c) : Src I w z ys c := by
  unfold rowsOf at h
  split at h
  · simp at h; obtain ⟨rfl, rfl⟩ := h; simp only [VR] at hx; obtain ⟨rfl, _⟩ := hx
    exact .inr ⟨none, 0, rfl, .inl rfl⟩
  · simp at h; obtain ⟨rfl, rfl⟩ := h; simp only [VR] at hx; obtain ⟨a, rfl⟩ := hx
    exact .inr ⟨a, 0, rfl, .inl rfl⟩
  · simp only [Option.some.injEq, Prod.mk.injEq] at h; obtain ⟨rfl, rfl⟩ := h; simp only [VR] at hx; obtain ⟨rfl, _⟩ := hx
    exact .inl ⟨_, rfl, rfl, rfl⟩
  · simp at h; obtain ⟨rfl, rfl⟩ := h; simp only [VR, TR] at hx; obtain ⟨a, cap, rfl, h1, h2⟩ := hx
    refine .inr ⟨a, cap, rfl, ?_⟩
    rcases h2 with h2 | ⟨b, off, rfl, h2⟩
    · exact .inl h2
    · obtain ⟨us, h3, h4⟩ := TRcells.list (TRrows.flat h2)
      exact .inr ⟨b, off, us, rfl, TRrows.len h2, h3, fun j u hu => hi.imm _ _ _ (h4 j u hu)⟩
  · rename_i t off len
    split at h
    · rename_i z' xs ro hk
      split at h
      · rename_i hle
        simp at h
        obtain ⟨rfl, rfl⟩ := h
        have hb := hi.blk t _ hk
        simp only [BlkR] at hb
        have hlen : ((xs.drop off).take len).length = len := by simp; omega
        simp only [VR] at hx
        rcases hx with ⟨y, hy, ⟨hcap, rfl⟩ | ⟨rfl, hcap, a, rfl⟩⟩ | ⟨hy, rfl, rfl, a, rfl⟩
        · rcases hb with ⟨h1, rfl⟩ | ⟨b, cap, cs, e, h1, h2, h3, h4, h5, h6, h7, h8⟩
          · rw [hy] at h1; simp at h1
          · rw [hy] at h1
            simp at h1
            subst h1
            refine .inr ⟨_, _, by rw [hlen], ?_⟩
            rcases Nat.eq_zero_or_pos len with h0 | h0
            · exact .inl (by subst h0; simp)
            refine .inr ⟨b, off * z', ((cs.toList.take (xs.length * z')).drop (off * z')).take (len * z'), rfl, fun r hr => h6 r (List.mem_of_mem_drop (List.mem_of_mem_take hr)), ?_, fun j u hu => ?_⟩
            · have := (h7.drop (off * z')).take (len * z')
              rw [flatten_drop off h6, flatten_take len (fun r hr => h6 r (List.mem_of_mem_drop hr))] at this
              exact this
            · have hj : j < len * z' := by
                rcases Nat.lt_or_ge j (len * z') with h | h
                · exact h
                · rw [List.getElem?_take, if_neg (by omega)] at hu; simp at hu
              rw [List.getElem?_take, if_pos hj, List.getElem?_drop, List.getElem?_take] at hu
              have : (off + len) * z' ≤ xs.length * z' := Nat.mul_le_mul_right _ hle
              rw [Nat.add_mul] at this
              rw [if_pos (by omega)] at hu
              simp [World.cell?, h2, ← Array.getElem?_toList, hu]
        · exact .inr ⟨a, 0, by simp, .inl (by simp)⟩
        · exact .inr ⟨a, 0, by simp, .inl (by simp)⟩
      · simp at h
    · simp at h
  · rename_i t off len z'
    split at h
    · rename_i cells ro hk
      split at h
      · rename_i hle
        simp only [Option.map_eq_some_iff, Prod.mk.injEq] at h
        obtain ⟨ts, hts, rfl, rfl⟩ := h
        have hb := hi.blk t _ hk
        simp only [BlkR] at hb
        obtain ⟨b, cs, e, h1, h2, h3, h4⟩ := hb
        simp only [VR] at hx
        obtain ⟨y, a, cap, hy, hcap, rfl, ha⟩ := hx
        rw [h1] at hy
        simp at hy
        subst hy
        have hv := scalTs_sound hts ((h3.drop off).take (len * z'))
        have htl : ts.length = len * z' := by
          rw [hv.length]
          have := h3.length
          simp at this ⊢
          omega
        obtain ⟨c1, c2, c3⟩ := chunkT_flat len ts htl
        rcases ha with rfl | rfl
        · exact .inr ⟨a, _, by rw [c2], .inl (by simpa using c2)⟩
        refine .inr ⟨_, _, by rw [c2], .inr ⟨b, off, (cs.toList.drop off).take (len * z'), rfl, c3, by rw [c1]; exact hv, fun j u hu => ?_⟩⟩
        have hj : j < len * z' := by
          rcases Nat.lt_or_ge j (len * z') with h | h
          · exact h
          · rw [List.getElem?_take, if_neg (by omega)] at hu; simp at hu
        rw [List.getElem?_take, if_pos hj, List.getElem?_drop] at hu
        simp [World.cell?, h2, ← Array.getElem?_toList, hu]
      · simp at h
    · simp at h
  · simp at h

theorem numsT_sound : ∀ {rows : List (List T)} {ns : List Int} {us : List Value}, numsT rows = some ns → TRl I rows.flatten us → us = ns.map (Value.int .u8) ∧ ns.length = rows.length
  | [], ns, us, h, k => by
    simp [numsT] at h
    subst h
    cases us with
    | nil => simp
    | cons => simp [TRl] at k
  | [.s (.int .u8 n)] :: rs, ns, us, h, k => by
    simp only [numsT] at h
    split at h
    · rename_i ns' h1
      simp at h
      subst h
      cases us with
      | nil => simp [TRl] at k
      | cons u us =>
        simp only [List.flatten_cons, List.cons_append, List.nil_append, TRl, TR] at k
        obtain ⟨⟨rfl, _⟩, k⟩ := k
        obtain ⟨rfl, h2⟩ := numsT_sound h1 k
        simp [h2]
    · simp at h
  | [] :: rs, ns, us, h, k => by simp [numsT] at h
  | (_ :: _ :: _) :: rs, ns, us, h, k => by simp [numsT] at h
  | [.sl _ _] :: rs, ns, us, h, k => by simp [numsT] at h
  | [.s v] :: rs, ns, us, h, k => by
    unfold numsT at h
    split at h
    · simp_all
    · rename_i n rs' heq
      simp at heq
      obtain ⟨rfl, rfl⟩ := heq
      split at h
      · rename_i ns' h1
        simp at h
        subst h
        cases us with
        | nil => simp [TRl] at k
        | cons u us =>
          simp only [List.flatten_cons, List.cons_append, List.nil_append, TRl, TR] at k
          obtain ⟨⟨rfl, _⟩, k⟩ := k
          obtain ⟨rfl, h2⟩ := numsT_sound h1 k
          simp [h2]
      · simp at h
    · simp at h

/-- Conversions that leave the world alone: all but those of a string to bytes. -/
theorem aconv_sound (hi : Inv β I σ w) {src dst : TypeId} {x v : V} {c : Value} (h : aconv P σ src dst x = some v) (hx : VR β I x c) (hn : ∀ e s, P.underlying dst = some (.slice e) → x ≠ .s (.string s)) :
    ∃ r, (Go.convert src dst c).run P w = .ok r w ∧ VR β I v r := by
  unfold aconv at h
  split at h
  · simp at h
  · rename_i sd hs
    split at h
    · rename_i hd
      simp at h; subst h; simp only [VR] at hx; obtain ⟨rfl, _⟩ := hx
      refine ⟨_, ?_, by simp only [VR]; exact ⟨rfl, rfl⟩⟩
      simp only [Go.convert, Sem.run_bind, run_und hs, run_und hd, Result.andThen_ok]
      cases sd <;> rfl
    · rename_i hd
      simp at h; subst h; simp only [VR] at hx; obtain ⟨rfl, _⟩ := hx
      refine ⟨_, ?_, by simp only [VR]; exact ⟨rfl, rfl⟩⟩
      simp only [Go.convert, Sem.run_bind, run_und hs, run_und hd, Result.andThen_ok]
      cases sd <;> rfl
    · rename_i e s hd
      exact absurd rfl (hn e s hd)
    · rename_i x' hd hne
      split at h
      · rename_i e
        split at h
        · rename_i he
          have he := isByte_und he
          split at h
          · rename_i z rows hr
            simp only [Option.map_eq_some_iff] at h
            obtain ⟨ns, h1, rfl⟩ := h
            refine ⟨_, ?_, by simp only [VR]; exact ⟨rfl, rfl⟩⟩
            rcases rowsOf_sound hi hr hx with ⟨s, rfl, _, _⟩ | ⟨a, cap, rfl, h2⟩
            · exfalso
              unfold rowsOf at hr
              split at hr
              · simp only [VR] at hx; obtain ⟨e, _⟩ := hx; cases e
              · simp only [VR] at hx; obtain ⟨x, e⟩ := hx; cases e
              · exact hne _ rfl
              · simp only [VR, TR] at hx; obtain ⟨a, cap, e, _⟩ := hx; cases e
              · simp only [VR] at hx; rcases hx with ⟨y, _, ⟨_, e⟩ | ⟨_, _, a, e⟩⟩ | ⟨_, _, _, a, e⟩ <;> cases e
              · simp only [VR] at hx; obtain ⟨y, a, cap, _, _, e, _⟩ := hx; cases e
              · simp at hr
            · rcases h2 with rfl | ⟨b, o, us, rfl, h3, h4, h5⟩
              · simp [numsT] at h1
                subst h1
                cases a with
                | none => exact run_convert_bytes_nil w src e hs he _ _ dst hd
                | some ad =>
                  simp only [Go.convert, Sem.run_bind, run_und hs, run_und hd, run_und he, Result.andThen_ok]
                  simp [Conv.bytesToString, loadCells, loadCellsFrom]
                  rfl
              · obtain ⟨rfl, hl⟩ := numsT_sound h1 h4
                exact run_convert_bytes_arg w src e hs he b o _ cap ns hl (fun i hi' => h5 i _ (by
                  have : i < ns.length := by omega
                  simp [List.getElem?_eq_getElem this, List.getD_eq_getElem?_getD])) dst hd
          · simp at h
        · simp at h
      · simp at h
    · simp at h

end
end Go.Ai
