/- An interpreter of the language over data, and the proof that what it answers is what the machine does; no condition. -/
import Derived.Test.YtdojjjjhbgkpfaaAiEq
import Derived.Laws.BytesArg
import Derived.Lib.ConvBytes
set_option linter.unusedVariables false
set_option linter.unusedSimpArgs false
namespace Go.Ai
section
variable {P : Program} {β : Nat → Option BV} {I : Imm} {w : World} {σ : List Blk}
/-! ### Numbers, strings, comparisons -/
theorem intBin_sound {op : BinOp} {k : IntKind} {a b : Int} {r : Value} (t : TypeId) (h : intBin op k a b = some r) (w : World) : (Go.binOp op t (.int k a) (.int k b)).run P w = .ok r w ∧ scalar r = true := by
  cases op <;> simp [intBin] at h <;>
    first
    | (subst h; simp [Go.binOp, Op.intArith, Op.intBits, Op.intCmp, scalar, bAnd, bOr, bXor, bAndNot]; done)
    | (obtain ⟨h0, rfl⟩ := h; simp [Go.binOp, Op.intDiv, h0, scalar])
theorem shiftBin_sound {op : BinOp} {k k' : IntKind} {a b : Int} {r : Value} (t : TypeId) (h : shiftBin op k a b = some r) (w : World) : (Go.binOp op t (.int k a) (.int k' b)).run P w = .ok r w ∧ scalar r = true := by
  unfold shiftBin at h
  split at h
  · simp at h
  · rename_i hb
    cases op <;> simp at h <;> (subst h; simp [Go.binOp, Op.shift, hb, scalar])
theorem strBin_sound {op : BinOp} {a b : ByteArray} {r : Value} (t : TypeId) (h : strBin op a b = some r) (w : World) : (Go.binOp op t (.string a) (.string b)).run P w = .ok r w ∧ scalar r = true := by
  cases op <;> simp only [strBin, Option.some.injEq] at h
  case add =>
    split at h
    · simp at h
    · rename_i hs
      simp at h
      subst h
      refine ⟨?_, rfl⟩
      simp only [Go.binOp, Op.stringOp]
      rw [if_neg hs]
      rfl
  all_goals first
    | (subst h; simp [Go.binOp, Op.stringOp, scalar]; done)
    | simp at h
theorem nilS_sound {e : TypeId} {x : V} {c : Value} {b : Bool} {t : TypeId} (h : nilS x = some b) (hx : VR β I x c) (hu : P.underlying t = some (.slice e)) (d : Nat) (w : World) :
    (Op.equalIn (d + 1) t c (.slice none 0 0)).run P w = .ok b w := by
  unfold nilS at h
  split at h <;> simp at h <;> subst h <;> simp only [VR, TR] at hx
  · obtain ⟨e, _⟩ := hx; subst e; simp [Op.equalIn, run_und hu]
  · obtain ⟨a', cap, e, h1, h2⟩ := hx
    rcases h2 with h2 | ⟨b, off, h2, _⟩
    · simp at h2
    · subst h2; subst e; simp [Op.equalIn, run_und hu]
theorem nilP_sound {e : TypeId} {x : V} {c : Value} {b : Bool} {t : TypeId} (h : nilP x = some b) (hx : VR β I x c) (hu : P.underlying t = some (.pointer e)) (d : Nat) (w : World) :
    (Op.equalIn (d + 1) t c (.pointer none)).run P w = .ok b w ∧ (Op.equalIn (d + 1) t (.pointer none) c).run P w = .ok b w := by
  unfold nilP at h
  split at h <;> simp at h <;> subst h <;> simp only [VR] at hx
  · obtain ⟨e, _⟩ := hx; subst e; simp [Op.equalIn, run_und hu]
  · obtain ⟨x, _, e⟩ := hx; subst e; simp [Op.equalIn, run_und hu]
  · obtain ⟨b, o, e, _⟩ := hx; subst e; simp [Op.equalIn, run_und hu]
theorem nilF_sound {ps rs : Array TypeId} {vd : Bool} {x : V} {c : Value} {b : Bool} {t : TypeId} (h : nilF x = some b) (hx : VR β I x c) (hu : P.underlying t = some (.func ps rs vd)) (d : Nat) (w : World) :
    (Op.equalIn (d + 1) t c .nilFunc).run P w = .ok b w := by
  unfold nilF at h
  split at h <;> simp at h <;> subst h <;> simp only [VR] at hx
  · obtain ⟨e, _⟩ := hx; subst e; simp [Op.equalIn, run_und hu]
  · obtain ⟨fv, cv, e, _⟩ := hx; subst e; simp [Op.equalIn, run_und hu]
theorem aeq_sound {t : TypeId} {x y : V} {c d : Value} {b : Bool} (h : aeq P t x y = some b) (hx : VR β I x c) (hy : VR β I y d) (w : World) : (Op.equal t c d).run P w = .ok b w := by
  unfold Op.equal Op.maxDepth
  unfold aeq at h
  split at h
  · rename_i hu
    split at h
    · simp only [VR] at hx hy
      obtain ⟨rfl, _⟩ := hx
      obtain ⟨rfl, _⟩ := hy
      simp at h
      subst h
      exact run_equalIn_bool' w 9999 t _ _ hu
    · simp at h
  · rename_i e hu
    split at h
    · simp only [VR] at hy
      obtain ⟨rfl, _⟩ := hy
      exact (nilP_sound h hx hu 9999 w).1
    · simp only [VR] at hx
      obtain ⟨rfl, _⟩ := hx
      exact (nilP_sound h hy hu 9999 w).2
    · simp at h
  · rename_i e hu
    split at h
    · simp only [VR] at hy
      obtain ⟨rfl, _⟩ := hy
      exact nilS_sound h hx hu 9999 w
    · simp at h
  · rename_i hu
    split at h
    · simp only [VR] at hy
      obtain ⟨rfl, _⟩ := hy
      exact nilF_sound h hx hu 9999 w
    · simp at h
  all_goals first
    | (rename_i hu
       split at h
       · rename_i xs ys
         rw [Option.bind_eq_some_iff] at h
         obtain ⟨ks, h1, h2⟩ := h
         simp only [VR] at hx hy
         obtain ⟨vs, rfl, hx⟩ := hx
         obtain ⟨us, rfl, hy⟩ := hy
         have he := equalIn_sound 20 t ks h1 10000 (by omega) w vs.toList us.toList b (eqCells_vals h2 hx hy)
         have ha : isAgg P t = some true := by simp [isAgg, hu]
         simpa [mkVal, ha] using he
       · simp at h)
    | simp at h
theorem aeq_guard {op : BinOp} {t : TypeId} {x y : V} {c d : Value} {b : Bool} (h : aeq P t x y = some b) (hx : VR β I x c) (hy : VR β I y d) (hd : 20 ≤ P.depth) (xo yo : Operand) (w : World) :
    (eqGuard op t xo yo c d).run P w = .ok () w := by
  unfold aeq at h
  split at h
  · split at h
    · simp only [VR] at hx hy
      obtain ⟨rfl, _⟩ := hx
      obtain ⟨rfl, _⟩ := hy
      cases op <;> simp [eqGuard]
    · simp at h
  · split at h
    · simp only [VR] at hy
      obtain ⟨rfl, _⟩ := hy
      cases op <;> simp [eqGuard] <;> cases c <;> simp
    · simp only [VR] at hx
      obtain ⟨rfl, _⟩ := hx
      cases op <;> simp [eqGuard]
    · simp at h
  · split at h
    · simp only [VR] at hy
      obtain ⟨rfl, _⟩ := hy
      cases op <;> simp [eqGuard] <;> cases c <;> simp
    · simp at h
  · split at h
    · simp only [VR] at hy
      obtain ⟨rfl, _⟩ := hy
      cases op <;> simp [eqGuard] <;> cases c <;> simp
    · simp at h
  all_goals first
    | (split at h
       · rename_i xs ys
         rw [Option.bind_eq_some_iff] at h
         obtain ⟨ks, h1, h2⟩ := h
         simp only [VR] at hx hy
         obtain ⟨vs, rfl, hx⟩ := hx
         obtain ⟨us, rfl, hy⟩ := hy
         exact run_eqGuard_agg w op t xo yo vs us (eqGuardType_sound 20 t ks h1 _ hd)
       · simp at h)
    | simp at h
def nonum : Value → Bool
  | .int .. | .float .. | .complex .. | .string .. => false
  | _ => true
theorem binOp_eql {t : TypeId} {c d : Value} (h : nonum d = true) : Go.binOp .eql t c d = (do let b ← Op.equal t c d; Pure.pure (.bool b)) := by
  cases d <;> simp [nonum] at h <;> cases c <;> rfl
theorem binOp_neq {t : TypeId} {c d : Value} (h : nonum d = true) : Go.binOp .neq t c d = (do let b ← Op.equal t c d; Pure.pure (.bool (!b))) := by
  cases d <;> simp [nonum] at h <;> cases c <;> rfl
theorem aeq_nonum {t : TypeId} {x y : V} {c d : Value} {b : Bool} (h : aeq P t x y = some b) (hx : VR β I x c) (hy : VR β I y d) : nonum d = true := by
  unfold aeq at h
  split at h
  · split at h
    · simp only [VR] at hy; obtain ⟨rfl, _⟩ := hy; rfl
    · simp at h
  · split at h
    · simp only [VR] at hy; obtain ⟨rfl, _⟩ := hy; rfl
    · unfold nilP at h
      split at h <;> simp at h <;> simp only [VR] at hy
      · obtain ⟨rfl, _⟩ := hy; rfl
      · obtain ⟨x, _, rfl⟩ := hy; rfl
      · obtain ⟨b, o, rfl, _⟩ := hy; rfl
    · simp at h
  · split at h
    · simp only [VR] at hy; obtain ⟨rfl, _⟩ := hy; rfl
    · simp at h
  · split at h
    · simp only [VR] at hy; obtain ⟨rfl, _⟩ := hy; rfl
    · simp at h
  all_goals first
    | (split at h
       · simp only [VR] at hy; obtain ⟨vs, rfl, _⟩ := hy; rfl
       · simp at h)
    | simp at h
theorem depth_ge (P : Program) : 20 ≤ P.depth := by unfold Program.depth Made.depth; omega
theorem abin_sound {op : BinOp} {t : TypeId} {x y v : V} {c d : Value} (h : abin P op t x y = some v) (hx : VR β I x c) (hy : VR β I y d) (xo yo : Operand) (w : World) :
    ∃ r, (do eqGuard op t xo yo c d; Go.binOp op t c d : Sem Value).run P w = .ok r w ∧ VR β I v r := by
  have guard_int : ∀ (k k' : IntKind) (a b : Int), (eqGuard op t xo yo (.int k a) (.int k' b)).run P w = .ok () w := by intro k k' a b; cases op <;> simp [eqGuard]
  have guard_str : ∀ (a b : ByteArray), (eqGuard op t xo yo (.string a) (.string b)).run P w = .ok () w := by intro a b; cases op <;> simp [eqGuard]
  unfold abin at h
  split at h
  · simp only [VR] at hx hy
    obtain ⟨rfl, _⟩ := hx
    obtain ⟨rfl, _⟩ := hy
    simp only [Option.map_eq_some_iff] at h
    obtain ⟨r, h1, rfl⟩ := h
    obtain ⟨h2, h3⟩ := shiftBin_sound (P := P) t h1 w
    exact ⟨r, by simp only [Sem.run_bind, guard_int, Result.andThen_ok]; exact h2, by simp only [VR]; exact ⟨trivial, h3⟩⟩
  · simp only [VR] at hx hy
    obtain ⟨rfl, _⟩ := hx
    obtain ⟨rfl, _⟩ := hy
    simp only [Option.map_eq_some_iff] at h
    obtain ⟨r, h1, rfl⟩ := h
    obtain ⟨h2, h3⟩ := shiftBin_sound (P := P) t h1 w
    exact ⟨r, by simp only [Sem.run_bind, guard_int, Result.andThen_ok]; exact h2, by simp only [VR]; exact ⟨trivial, h3⟩⟩
  · simp only [VR] at hx hy
    obtain ⟨rfl, _⟩ := hx
    obtain ⟨rfl, _⟩ := hy
    split at h
    · rename_i hk
      subst hk
      simp only [Option.map_eq_some_iff] at h
      obtain ⟨r, h1, rfl⟩ := h
      obtain ⟨h2, h3⟩ := intBin_sound (P := P) t h1 w
      exact ⟨r, by simp only [Sem.run_bind, guard_int, Result.andThen_ok]; exact h2, by simp only [VR]; exact ⟨trivial, h3⟩⟩
    · simp at h
  · simp only [VR] at hx hy
    obtain ⟨rfl, _⟩ := hx
    obtain ⟨rfl, _⟩ := hy
    simp only [Option.map_eq_some_iff] at h
    obtain ⟨r, h1, rfl⟩ := h
    obtain ⟨h2, h3⟩ := strBin_sound (P := P) t h1 w
    exact ⟨r, by simp only [Sem.run_bind, guard_str, Result.andThen_ok]; exact h2, by simp only [VR]; exact ⟨trivial, h3⟩⟩
  · rename_i hni hns
    simp only [Option.map_eq_some_iff] at h
    obtain ⟨b, h1, rfl⟩ := h
    have h2 := aeq_sound h1 hx hy w
    have h3 := aeq_guard (op := .eql) h1 hx hy (depth_ge P) xo yo w
    refine ⟨.bool b, ?_, by simp [VR, scalar]⟩
    simp only [Sem.run_bind, h3, Result.andThen_ok]
    rw [binOp_eql (aeq_nonum h1 hx hy)]
    simp [h2]
  · rename_i hni hns
    simp only [Option.map_eq_some_iff] at h
    obtain ⟨b, h1, rfl⟩ := h
    have h2 := aeq_sound h1 hx hy w
    have h3 := aeq_guard (op := .neq) h1 hx hy (depth_ge P) xo yo w
    refine ⟨.bool (!b), ?_, by simp [VR, scalar]⟩
    simp only [Sem.run_bind, h3, Result.andThen_ok]
    rw [binOp_neq (aeq_nonum h1 hx hy)]
    simp [h2]
  · simp at h
end
end Go.Ai

set_option linter.unusedVariables false
set_option linter.unusedSimpArgs false
namespace Go.Ai
section
variable {P : Program} {β : Nat → Option BV} {I : Imm} {w : World} {σ : List Blk}
theorem isByte_und {e : TypeId} (h : isByte P e = true) : P.underlying e = some (.int .u8) := by
  unfold isByte at h
  split at h
  · assumption
  · simp at h
theorem aun_sound {op : UnOp} {x v : V} {c : Value} (h : aun op x = some v) (hx : VR β I x c) (w : World) : ∃ r, (Op.unary op c).run P w = .ok r w ∧ VR β I v r := by
  unfold aun at h
  split at h
  · simp at h; subst h; simp only [VR] at hx; obtain ⟨rfl, _⟩ := hx
    exact ⟨_, by simp [Op.unary, Op.intArith]; rfl, by simp [VR, scalar]⟩
  · simp at h; subst h; simp only [VR] at hx; obtain ⟨rfl, _⟩ := hx
    exact ⟨_, by simp only [Op.unary, Op.intBits]; rfl, by simp [VR, scalar]⟩
  · simp at h; subst h; simp only [VR] at hx; obtain ⟨rfl, _⟩ := hx
    exact ⟨_, by simp [Op.unary]; rfl, by simp [VR, scalar]⟩
  · simp at h
theorem TRcells.list {b : Nat} : ∀ {ts : List T} {o : Nat}, TRcells I b o ts → ∃ us, TRl I ts us ∧ ∀ j u, us[j]? = some u → I b (o + j) = some u
  | [], o, _ => ⟨[], by simp [TRl], fun j u h => by simp at h⟩
  | t :: ts, o, h => by
    simp only [TRcells] at h
    obtain ⟨⟨u, h1, h2⟩, h3⟩ := h
    obtain ⟨us, h4, h5⟩ := TRcells.list h3
    refine ⟨u :: us, by simp only [TRl]; exact ⟨h2, h4⟩, fun j v hv => ?_⟩
    cases j with
    | zero => simp at hv; subst hv; exact h1
    | succ j => simp at hv; have := h5 j v hv; rwa [Nat.add_assoc, Nat.add_comm 1 j] at this
theorem chunkT_flat {z : Nat} : ∀ (n : Nat) (l : List T), l.length = n * z → (chunkT z n l).flatten = l ∧ (chunkT z n l).length = n ∧ ∀ r ∈ chunkT z n l, r.length = z
  | 0, l, h => by simp at h; subst h; simp [chunkT]
  | n + 1, l, h => by
    have h' : (l.drop z).length = n * z := by simp [h, Nat.add_mul]
    obtain ⟨h1, h2, h3⟩ := chunkT_flat n (l.drop z) h'
    refine ⟨by simp [chunkT, h1], by simp [chunkT, h2], fun r hr => ?_⟩
    simp only [chunkT, List.mem_cons] at hr
    rcases hr with rfl | hr
    · simp [h, Nat.add_mul]
    · exact h3 r hr
/-- What is read off a slice or a string. -/
def Src (I : Imm) (w : World) (z : Nat) (ys : List (List T)) (c : Value) : Prop :=
  (∃ s : ByteArray, c = .string s ∧ z = 1 ∧ ys = s.data.toList.map fun b => [T.s (.int .u8 b.toNat)]) ∨
  ∃ a cap, c = .slice a ys.length cap ∧ (ys = [] ∨ ∃ b o us, a = some ⟨b, o, none⟩ ∧ (∀ r ∈ ys, r.length = z) ∧ TRl I ys.flatten us ∧ ∀ j u, us[j]? = some u → w.cell? ⟨b, o + j, none⟩ = some u)
theorem rowsOf_sound (hi : Inv β I σ w) {x : V} {c : Value} {z : Nat} {ys : List (List T)} (h : rowsOf σ x = some (z, ys)) (hx : VR β I x c) : Src I w z ys c := by
  unfold rowsOf at h
  split at h
  · simp at h; obtain ⟨rfl, rfl⟩ := h; simp only [VR] at hx; obtain ⟨rfl, _⟩ := hx
    exact .inr ⟨none, 0, rfl, .inl rfl⟩
  · simp at h; obtain ⟨rfl, rfl⟩ := h; simp only [VR] at hx; obtain ⟨a, rfl⟩ := hx
    exact .inr ⟨a, 0, rfl, .inl rfl⟩
  · simp only [Option.some.injEq, Prod.mk.injEq] at h; obtain ⟨rfl, rfl⟩ := h; simp only [VR] at hx; obtain ⟨rfl, _⟩ := hx
    exact .inl ⟨_, rfl, rfl, rfl⟩
  · simp at h; obtain ⟨rfl, rfl⟩ := h; simp only [VR, TR] at hx; obtain ⟨a, cap, rfl, h1, h2⟩ := hx
    refine .inr ⟨a, cap, rfl, ?_⟩
    rcases h2 with h2 | ⟨b, off, rfl, h2⟩
    · exact .inl h2
    · obtain ⟨us, h3, h4⟩ := TRcells.list (TRrows.flat h2)
      exact .inr ⟨b, off, us, rfl, TRrows.len h2, h3, fun j u hu => hi.imm _ _ _ (h4 j u hu)⟩
  · rename_i t off len
    split at h
    · rename_i z' xs ro hk
      split at h
      · rename_i hle
        simp at h
        obtain ⟨rfl, rfl⟩ := h
        have hb := hi.blk t _ hk
        simp only [BlkR] at hb
        have hlen : ((xs.drop off).take len).length = len := by simp; omega
        simp only [VR] at hx
        rcases hx with ⟨y, hy, ⟨hcap, rfl⟩ | ⟨rfl, hcap, a, rfl⟩⟩ | ⟨hy, rfl, rfl, a, rfl⟩
        · rcases hb with ⟨h1, rfl⟩ | ⟨b, cap, cs, e, h1, h2, h3, h4, h5, h6, h7, h8⟩
          · rw [hy] at h1; simp at h1
          · rw [hy] at h1
            simp at h1
            subst h1
            refine .inr ⟨_, _, by rw [hlen], ?_⟩
            rcases Nat.eq_zero_or_pos len with h0 | h0
            · exact .inl (by subst h0; simp)
            refine .inr ⟨b, off * z', ((cs.toList.take (xs.length * z')).drop (off * z')).take (len * z'), rfl, fun r hr => h6 r (List.mem_of_mem_drop (List.mem_of_mem_take hr)), ?_, fun j u hu => ?_⟩
            · have := (h7.drop (off * z')).take (len * z')
              rw [flatten_drop off h6, flatten_take len (fun r hr => h6 r (List.mem_of_mem_drop hr))] at this
              exact this
            · have hj : j < len * z' := by
                rcases Nat.lt_or_ge j (len * z') with h | h
                · exact h
                · rw [List.getElem?_take, if_neg (by omega)] at hu; simp at hu
              rw [List.getElem?_take, if_pos hj, List.getElem?_drop, List.getElem?_take] at hu
              have : (off + len) * z' ≤ xs.length * z' := Nat.mul_le_mul_right _ hle
              rw [Nat.add_mul] at this
              rw [if_pos (by omega)] at hu
              simp [World.cell?, h2, ← Array.getElem?_toList, hu]
        · exact .inr ⟨a, 0, by simp, .inl (by simp)⟩
        · exact .inr ⟨a, 0, by simp, .inl (by simp)⟩
      · simp at h
    · simp at h
  · rename_i t off len z'
    split at h
    · rename_i cells ro hk
      split at h
      · rename_i hle
        simp only [Option.map_eq_some_iff, Prod.mk.injEq] at h
        obtain ⟨ts, hts, rfl, rfl⟩ := h
        have hb := hi.blk t _ hk
        simp only [BlkR] at hb
        obtain ⟨b, cs, e, h1, h2, h3, h4⟩ := hb
        simp only [VR] at hx
        obtain ⟨y, a, cap, hy, hcap, rfl, ha⟩ := hx
        rw [h1] at hy
        simp at hy
        subst hy
        have hv := scalTs_sound hts ((h3.drop off).take (len * z'))
        have htl : ts.length = len * z' := by
          rw [hv.length]
          have := h3.length
          simp at this ⊢
          omega
        obtain ⟨c1, c2, c3⟩ := chunkT_flat len ts htl
        rcases ha with rfl | rfl
        · exact .inr ⟨a, _, by rw [c2], .inl (by simpa using c2)⟩
        refine .inr ⟨_, _, by rw [c2], .inr ⟨b, off, (cs.toList.drop off).take (len * z'), rfl, c3, by rw [c1]; exact hv, fun j u hu => ?_⟩⟩
        have hj : j < len * z' := by
          rcases Nat.lt_or_ge j (len * z') with h | h
          · exact h
          · rw [List.getElem?_take, if_neg (by omega)] at hu; simp at hu
        rw [List.getElem?_take, if_pos hj, List.getElem?_drop] at hu
        simp [World.cell?, h2, ← Array.getElem?_toList, hu]
      · simp at h
    · simp at h
  · simp at h
theorem numsT_sound : ∀ {rows : List (List T)} {ns : List Int} {us : List Value}, numsT rows = some ns → TRl I rows.flatten us → us = ns.map (Value.int .u8) ∧ ns.length = rows.length
  | [], ns, us, h, k => by
    simp [numsT] at h
    subst h
    cases us with
    | nil => simp
    | cons => simp [TRl] at k
  | [.s (.int .u8 n)] :: rs, ns, us, h, k => by
    simp only [numsT] at h
    split at h
    · rename_i ns' h1
      simp at h
      subst h
      cases us with
      | nil => simp [TRl] at k
      | cons u us =>
        simp only [List.flatten_cons, List.cons_append, List.nil_append, TRl, TR] at k
        obtain ⟨⟨rfl, _⟩, k⟩ := k
        obtain ⟨rfl, h2⟩ := numsT_sound h1 k
        simp [h2]
    · simp at h
  | [] :: rs, ns, us, h, k => by simp [numsT] at h
  | (_ :: _ :: _) :: rs, ns, us, h, k => by simp [numsT] at h
  | [.sl _ _] :: rs, ns, us, h, k => by simp [numsT] at h
  | [.s v] :: rs, ns, us, h, k => by
    unfold numsT at h
    split at h
    · simp_all
    · rename_i n rs' heq
      simp at heq
      obtain ⟨rfl, rfl⟩ := heq
      split at h
      · rename_i ns' h1
        simp at h
        subst h
        cases us with
        | nil => simp [TRl] at k
        | cons u us =>
          simp only [List.flatten_cons, List.cons_append, List.nil_append, TRl, TR] at k
          obtain ⟨⟨rfl, _⟩, k⟩ := k
          obtain ⟨rfl, h2⟩ := numsT_sound h1 k
          simp [h2]
      · simp at h
    · simp at h
/-- Conversions that leave the world alone: all but those of a string to bytes. -/
theorem aconv_sound (hi : Inv β I σ w) {src dst : TypeId} {x v : V} {c : Value} (h : aconv P σ src dst x = some v) (hx : VR β I x c) (hn : ∀ e s, P.underlying dst = some (.slice e) → x ≠ .s (.string s)) :
    ∃ r, (Go.convert src dst c).run P w = .ok r w ∧ VR β I v r := by
  unfold aconv at h
  split at h
  · simp at h
  · rename_i sd hs
    split at h
    · rename_i hd
      simp at h; subst h; simp only [VR] at hx; obtain ⟨rfl, _⟩ := hx
      refine ⟨_, ?_, by simp only [VR]; exact ⟨rfl, rfl⟩⟩
      simp only [Go.convert, Sem.run_bind, run_und hs, run_und hd, Result.andThen_ok]
      cases sd <;> rfl
    · rename_i hd
      simp at h; subst h; simp only [VR] at hx; obtain ⟨rfl, _⟩ := hx
      refine ⟨_, ?_, by simp only [VR]; exact ⟨rfl, rfl⟩⟩
      simp only [Go.convert, Sem.run_bind, run_und hs, run_und hd, Result.andThen_ok]
      cases sd <;> rfl
    · rename_i e s hd
      exact absurd rfl (hn e s hd)
    · rename_i x' hd hne
      split at h
      · rename_i e
        split at h
        · rename_i he
          have he := isByte_und he
          split at h
          · rename_i z rows hr
            simp only [Option.map_eq_some_iff] at h
            obtain ⟨ns, h1, rfl⟩ := h
            refine ⟨_, ?_, by simp only [VR]; exact ⟨rfl, rfl⟩⟩
            rcases rowsOf_sound hi hr hx with ⟨s, rfl, _, _⟩ | ⟨a, cap, rfl, h2⟩
            · exfalso
              unfold rowsOf at hr
              split at hr
              · simp only [VR] at hx; obtain ⟨e, _⟩ := hx; cases e
              · simp only [VR] at hx; obtain ⟨x, e⟩ := hx; cases e
              · exact hne _ rfl
              · simp only [VR, TR] at hx; obtain ⟨a, cap, e, _⟩ := hx; cases e
              · simp only [VR] at hx; rcases hx with ⟨y, _, ⟨_, e⟩ | ⟨_, _, a, e⟩⟩ | ⟨_, _, _, a, e⟩ <;> cases e
              · simp only [VR] at hx; obtain ⟨y, a, cap, _, _, e, _⟩ := hx; cases e
              · simp at hr
            · rcases h2 with rfl | ⟨b, o, us, rfl, h3, h4, h5⟩
              · simp [numsT] at h1
                subst h1
                cases a with
                | none => exact run_convert_bytes_nil w src e hs he _ _ dst hd
                | some ad =>
                  simp only [Go.convert, Sem.run_bind, run_und hs, run_und hd, run_und he, Result.andThen_ok]
                  simp [Conv.bytesToString, loadCells, loadCellsFrom]
                  rfl
              · obtain ⟨rfl, hl⟩ := numsT_sound h1 h4
                exact run_convert_bytes_arg w src e hs he b o _ cap ns hl (fun i hi' => h5 i _ (by
                  have : i < ns.length := by omega
                  simp [List.getElem?_eq_getElem this, List.getD_eq_getElem?_getD])) dst hd
          · simp at h
        · simp at h
      · simp at h
    · simp at h
end
end Go.Ai
