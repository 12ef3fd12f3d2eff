/- Contracts of functions of the loaded program: called with data in the ranges that each names, it returns this value and writes to no old memory. -/
import Derived.Test.YtgppcipkllkgbaaFdbY
set_option linter.unusedVariables false
set_option linter.unusedSimpArgs false
set_option maxHeartbeats 4000000
set_option maxRecDepth 100000
namespace Go.Ai
open Go.Proofs

theorem look_iff {L : List Ent} (hs : Srt L) (v : Int) (m : Mc) (x : Ent) : lookL L v m = some x ↔ x ∈ L ∧ isK v m x = true := by
  unfold lookL
  constructor
  · intro h
    exact ⟨List.mem_of_find?_eq_some h, List.find?_some h⟩
  · rintro ⟨h1, h2⟩
    cases hf : L.find? (isK v m) with
    | none =>
      rw [List.find?_eq_none] at hf
      exact absurd h2 (hf x h1)
    | some y =>
      have hy := List.find?_some hf
      have hyL := List.mem_of_find?_eq_some hf
      have e1 := isK_eq h2
      have e2 := isK_eq hy
      have : y = x := map_inj (srt_nod hs) hyL h1 (by simp [keyOf, ← e1.1, ← e1.2, ← e2.1, ← e2.2])
      rw [this]
theorem look_mem {L : List Ent} (hs : Srt L) {x : Ent} (h : x ∈ L) : lookL L x.v x.m = some x := (look_iff hs _ _ _).2 ⟨h, by simp [isK]⟩
theorem look_off {L : List Ent} {v : Int} {m : Mc} (h : ∀ x ∈ L, keyOf x ≠ (v, m)) : lookL L v m = none := by
  unfold lookL
  rw [List.find?_eq_none]
  intro x hx hk
  have := isK_eq hk
  exact h x hx (by simp [keyOf, ← this.1, ← this.2])
theorem mem_erase_ne {L : List Ent} {j : Nat} {x y : Ent} (hj : L[j]? = some x) (hy : y ∈ L) (hne : y ≠ x) : y ∈ L.eraseIdx j := by
  rcases List.mem_cons.1 ((perm_erase hj).mem_iff.1 hy) with h | h
  · exact (hne h).elim
  · exact h
structure PutD (R : Int) (L L' : List Ent) (e : Ent) : Prop where
  mem : ∀ y, y ∈ L' → y = e ∨ y ∈ L
  here : e ∈ L'
  keep : ∀ y ∈ L, keyOf y ≠ keyOf e → (y.st = true ∨ (L.length : Int) < R) → y ∈ L'
  len : L'.length ≤ L.length + 1
  room : (L.length : Int) ≤ R → (L'.length : Int) ≤ R
theorem insE_mem (e : Ent) (L : List Ent) (y : Ent) : y ∈ insE e L ↔ y = e ∨ y ∈ L := by
  rw [(insE_perm e L).mem_iff, List.mem_cons]
theorem putL_ok (R : Int) {L : List Ent} (hs : Srt L) (e : Ent) : ((putL R L e).1 = 71 ∧ (putL R L e).2 = L) ∨ ((putL R L e).1 = 0 ∧ PutD R L (putL R L e).2 e) := by
  unfold putL
  cases hj : L.findIdx? (isK e.v e.m) with
  | some j =>
    obtain ⟨x, h1, h2, h3⟩ := look_idx hj
    have hx := isK_eq h2
    have hl : (L.eraseIdx j).length + 1 = L.length := by
      have := (perm_erase h1).length_eq
      simpa using this.symm
    refine .inr ⟨rfl, fun y hy => ?_, (insE_mem _ _ _).2 (.inl rfl), fun y hy hk _ => (insE_mem _ _ _).2 (.inr (mem_erase_ne h1 hy fun h => hk (by rw [h]; simp [keyOf, hx.1, hx.2]))), by simp only [insE_len]; omega, fun h => by simp only [insE_len]; omega⟩
    rcases (insE_mem _ _ _).1 hy with h | h
    · exact .inl h
    · exact .inr (List.mem_of_mem_eraseIdx h)
  | none =>
    simp only
    unfold roomL
    by_cases hr : (L.length : Int) < R
    · simp only [if_pos hr]
      exact .inr ⟨trivial, fun y hy => (insE_mem _ _ _).1 hy, (insE_mem _ _ _).2 (.inl rfl), fun y hy hk _ => (insE_mem _ _ _).2 (.inr hy), by simp only [insE_len]; omega, fun h => by simp only [insE_len]; omega⟩
    · simp only [if_neg hr]
      cases ho : oldF L with
      | none => exact .inl ⟨rfl, rfl⟩
      | some q =>
        obtain ⟨x, h1, h2, h3⟩ := oldF_some hs ho
        have hl : (L.eraseIdx q).length + 1 = L.length := by
          have := (perm_erase h1).length_eq
          simpa using this.symm
        refine .inr ⟨rfl, fun y hy => ?_, (insE_mem _ _ _).2 (.inl rfl), fun y hy hk hh => (insE_mem _ _ _).2 (.inr (mem_erase_ne h1 hy fun h => ?_)), by simp only [insE_len]; omega, fun h => by simp only [insE_len]; omega⟩
        · rcases (insE_mem _ _ _).1 hy with h | h
          · exact .inl h
          · exact .inr (List.mem_of_mem_eraseIdx h)
        · rcases hh with hh | hh
          · rw [h, h2] at hh; cases hh
          · exact (hr hh).elim

/-! ### What each call does, in one word -/
theorem gl10 (P R A : Int) {M : List Ev} {c : Nat} {L : List Ent} (h : Rep M c L) (v p t : Int) (m : Mc) (hm : okM m) (hP : P ≤ 8) :
    ∃ err M' c' L', AC Try.prog 10 [.ptr 0 0 0, vI v, mV m, vI p, vI t] (hG P R A M c) (eqS (vI err) (hG P R A M' c')) ∧ Rep M' c' L' ∧
      ((err ≠ 0 ∧ L' = L) ∨ (err = 0 ∧ mayP P v m p ∧ (0 ≤ t ∧ t ≤ 1099511627776) ∧ ((L' = L ∧ ∃ x, lookL L v m = some x ∧ x.st = true) ∨ ((∀ x, lookL L v m = some x → x.st = false) ∧ PutD R L L' ⟨v, m, p, false, t⟩)))) := by
  by_cases hA : mayP P v m p ∧ 0 ≤ t ∧ t ≤ 1099511627776
  · by_cases hs : ∃ x, lookL L v m = some x ∧ x.st = true
    · obtain ⟨x, h1, h2⟩ := hs
      exact ⟨0, M, c, L, gq10s P R A h v p t m hm hA.1 hA.2 x h1 h2, h, .inr ⟨rfl, hA.1, hA.2, .inl ⟨rfl, x, h1, h2⟩⟩⟩
    · have hst : ∀ x, lookL L v m = some x → x.st = false := by
        intro x hx
        cases hxs : x.st with
        | false => rfl
        | true => exact (hs ⟨x, hx, hxs⟩).elim
      obtain ⟨M', c', h1, h2⟩ := gq10 P R A h v p t m hm hP hA.1 hA.2 hst
      refine ⟨_, M', c', _, h1, h2, ?_⟩
      rcases putL_ok R h.srt ⟨v, m, p, false, t⟩ with ⟨h3, h4⟩ | ⟨h3, h4⟩
      · exact .inl ⟨by rw [h3]; decide, h4⟩
      · exact .inr ⟨h3, hA.1, hA.2, .inr ⟨hst, h4⟩⟩
  · exact ⟨70, M, c, L, gq10n P R A M c v p t m hm hA, h, .inl ⟨by decide, rfl⟩⟩
theorem gl16 (P R A : Int) {M : List Ev} {c : Nat} {L : List Ent} (h : Rep M c L) (v p : Int) (m : Mc) (hm : okM m) (hP : P ≤ 8) :
    ∃ err M' c' L', AC Try.prog 16 [.ptr 0 0 0, vI v, mV m, vI p] (hG P R A M c) (eqS (vI err) (hG P R A M' c')) ∧ Rep M' c' L' ∧
      ((err ≠ 0 ∧ L' = L) ∨ (err = 0 ∧ PutD R L L' ⟨v, m, p, true, 0⟩)) := by
  by_cases hA : mayP P v m p
  · obtain ⟨M', c', h1, h2⟩ := gq16 P R A h v p m hm hP hA
    refine ⟨_, M', c', _, h1, h2, ?_⟩
    rcases putL_ok R h.srt ⟨v, m, p, true, 0⟩ with ⟨h3, h4⟩ | ⟨h3, h4⟩
    · exact .inl ⟨by rw [h3]; decide, h4⟩
    · exact .inr ⟨h3, h4⟩
  · exact ⟨70, M, c, L, gq16n P R A M c v p m hm hA, h, .inl ⟨by decide, rfl⟩⟩
theorem gl17 (P R A : Int) {M : List Ev} {c : Nat} {L : List Ent} (h : Rep M c L) (v : Int) (m : Mc) :
    ∃ err M' L', AC Try.prog 17 [.ptr 0 0 0, vI v, mV m] (hG P R A M c) (eqS (vI err) (hG P R A M' c)) ∧ Rep M' c L' ∧
      ((err ≠ 0 ∧ L' = L) ∨ (err = 0 ∧ L'.length ≤ L.length)) := by
  obtain ⟨M', e, L', h1, h2, h3⟩ := gq17 P R A h v m
  refine ⟨e, M', L', h1, h2, ?_⟩
  rcases h3 with ⟨rfl, h4⟩ | ⟨rfl, j, x, h4, _, _, rfl⟩
  · exact .inl ⟨by decide, h4⟩
  · exact .inr ⟨rfl, List.Sublist.length_le (List.eraseIdx_sublist L j)⟩

/-! ### One deed -/
structure OpR where
  (k v : Int) (m : Mc) (p t : Int)
deriving DecidableEq
abbrev opT (x : OpR) : List T := [.s (.int .i64 x.k), .s (.int .i64 x.v), .s (.int .u8 x.m.a), .s (.int .u8 x.m.b), .s (.int .u8 x.m.c), .s (.int .u8 x.m.d), .s (.int .u8 x.m.e), .s (.int .u8 x.m.f), .s (.int .i64 x.p), .s (.int .i64 x.t)]
abbrev opV (x : OpR) : V := .agg [.s (.int .i64 x.k), .s (.int .i64 x.v), .s (.int .u8 x.m.a), .s (.int .u8 x.m.b), .s (.int .u8 x.m.c), .s (.int .u8 x.m.d), .s (.int .u8 x.m.e), .s (.int .u8 x.m.f), .s (.int .i64 x.p), .s (.int .i64 x.t)]
abbrev bxOp (x : OpR) : Blk := .box [.s (.int .i64 x.k), .s (.int .i64 x.v), .s (.int .u8 x.m.a), .s (.int .u8 x.m.b), .s (.int .u8 x.m.c), .s (.int .u8 x.m.d), .s (.int .u8 x.m.e), .s (.int .u8 x.m.f), .s (.int .i64 x.p), .s (.int .i64 x.t)] false
theorem gq15 (P R A : Int) (hP : P ≤ 8) (hA : 0 ≤ A ∧ A ≤ 1048576) {M : List Ev} {c : Nat} {L : List Ent} (h : Rep M c L) (hl : L.length ≤ 10000) (hR : (L.length : Int) ≤ R) (x : OpR) (hx : okM x.m) :
    ∃ M' c' L', AC Try.prog 15 [.ptr 0 0 0, opV x] (hG P R A M c) (eqS (.tuple []) (hG P R A M' c')) ∧ Rep M' c' L' ∧ (L'.length : Int) ≤ R ∧ L'.length ≤ L.length + 1 ∧ (x.k ≠ 2 → x.k ≠ 3 → x.k ≠ 7 → ∀ e ∈ L, e.st = true → e ∈ L') := by
  obtain ⟨k, v, m, p, t⟩ := x
  simp only at hx
  have flt : ∀ q : Ent → Bool, (L.filter q).length ≤ L.length := fun q => List.length_filter_le q L
  by_cases k1 : k = 1
  · subst k1
    obtain ⟨err, M', c', L', n10, hr, hd⟩ := gl10 P R A h v p t m hx hP
    refine ⟨M', c', L', ?_, hr, ?_⟩
    · refine AC_heap orders [0, 1] Try.func15 rfl (by kernel_rfl) (by kernel_rfl) Try.ntmps15 (by simp) ?_
      unfold Try.f15
      (have hwq := trivial; repeat' (first | simp (config := { maxSteps := 10000000, implicitDefEqProofs := false }) only [QH, QR, V.noimm, V.noimms, frzZs, frzZ, frzA, frzV, frzVs, frzBox, boxLen, Option.isSome, cond_true, cond_false, aopD, calW, flatV, stepX, amap, stepY, alookup, afind, aupdate, adelete, amlen, arange, ameq, mapOf, akeq, pl, V.mapT, V.mapTs, Option.bind, stepK, runK, guardD, stepE, runD, callD, compact, selB, callK, evS, ofVal, ofVals, scalar, aop, ares, mkRes, V.rn, V.rns, V.cells?, cellsAt, Go.Ai.part, aload, astore, setL, V.atom, abin, aun, intBin, shiftBin, aconv, fieldOf, aindexAddr, aindex, bound?, aslice, aarr, abuild, afill, alen, nilP, nilS, nilF, aeq, eqCells, eqCell, Go.Ai.known, strBin, abuiltin, aappend, abuildSlice, arowsFill, amakeSlice, acopy, minmax, rowsOf, numsT, notStr, isIntD, isByte, V.pz, V.pzs, T.toV, frz1, frz, scalT, scalTs, chunkT, List.range, List.range.loop, Int.reduceTDiv, Int.reduceTMod, Int.reduceFDiv, UInt8.reduceToNat, Nat.reduceAdd, Nat.reduceMul, Nat.reduceSub, Nat.reduceEqDiff, Nat.reduceLT, Nat.reduceLeDiff, Nat.reducePow, Nat.reduceDiv, Nat.reduceMod, Int.reduceLT, Int.reduceLE, Int.reduceAdd, Int.reduceMul, Int.reduceSub, Int.reduceNeg, Int.reduceToNat, Int.reducePow, Int.reduceEq, ↓reduceIte, ite_true, ite_false, if_true, if_false, ne_eq, reduceCtorEq, Int.reduceBEq, Int.reduceBNe, Nat.reduceBEq, Nat.reduceBNe, implies_true, forall_const, eq_self, reduceDIte, IntKind.bits, kPostKF_ret, kPostKF_normal, kPostX_ret, kPostX_normal, bsl, hwq, u3, a3, c3, b3, z3, k3, u4, a4, c4, b4, z4, k4, u5, a5, c5, b5, z5, k5, u23, a23, c23, b23, z23, k23, l23, u25, a25, c25, b25, z25, k25, u35, a35, c35, b35, z35, k35, l35, u60, a60, c60, b60, z60, k60, u62, a62, c62, b62, z62, k62, u68, a68, c68, b68, z68, k68, l68, u70, a70, c70, b70, z70, k70, l70, grn, gmt] | (refine awpL_loop 18 ?_; have hwq := trivial) | (refine condK_split ?_ ?_ <;> intro hwq) | (refine guardK_split ?_ ?_ <;> intro hwq) | (refine guardE_split ?_ ?_ <;> intro hwq) | (refine awp_drawW [] (by decide +kernel) ?_; have hwq := trivial) | (refine call_at [0, 1] n10 (by simp) (by decide) rfl rfl (by simp [gmt, mapT_box, V.mapTs, V.mapT, pl]) (V.les_refl _) ?_; have hwq := trivial) | fail))
    · rcases hd with ⟨_, rfl⟩ | ⟨_, _, _, ⟨rfl, _⟩ | ⟨h1, h2⟩⟩
      · exact ⟨hR, by omega, fun _ _ _ e he _ => he⟩
      · exact ⟨hR, by omega, fun _ _ _ e he _ => he⟩
      · refine ⟨h2.room hR, h2.len, fun _ _ _ e he hs => h2.keep e he (fun hk => ?_) (.inl hs)⟩
        simp only [keyOf, Prod.mk.injEq] at hk
        have h3 := look_mem h.srt he
        rw [hk.1, hk.2] at h3
        rw [h1 e h3] at hs
        cases hs
  have k1' : (k == 1) = false := by simp [k1]
  by_cases k2 : k = 2
  · subst k2
    obtain ⟨err, M', c', L', n16, hr, hd⟩ := gl16 P R A h v p m hx hP
    refine ⟨M', c', L', ?_, hr, ?_⟩
    · refine AC_heap orders [0, 1] Try.func15 rfl (by kernel_rfl) (by kernel_rfl) Try.ntmps15 (by simp) ?_
      unfold Try.f15
      (have hwq := trivial; repeat' (first | simp (config := { maxSteps := 10000000, implicitDefEqProofs := false }) only [QH, QR, V.noimm, V.noimms, frzZs, frzZ, frzA, frzV, frzVs, frzBox, boxLen, Option.isSome, cond_true, cond_false, aopD, calW, flatV, stepX, amap, stepY, alookup, afind, aupdate, adelete, amlen, arange, ameq, mapOf, akeq, pl, V.mapT, V.mapTs, Option.bind, stepK, runK, guardD, stepE, runD, callD, compact, selB, callK, evS, ofVal, ofVals, scalar, aop, ares, mkRes, V.rn, V.rns, V.cells?, cellsAt, Go.Ai.part, aload, astore, setL, V.atom, abin, aun, intBin, shiftBin, aconv, fieldOf, aindexAddr, aindex, bound?, aslice, aarr, abuild, afill, alen, nilP, nilS, nilF, aeq, eqCells, eqCell, Go.Ai.known, strBin, abuiltin, aappend, abuildSlice, arowsFill, amakeSlice, acopy, minmax, rowsOf, numsT, notStr, isIntD, isByte, V.pz, V.pzs, T.toV, frz1, frz, scalT, scalTs, chunkT, List.range, List.range.loop, Int.reduceTDiv, Int.reduceTMod, Int.reduceFDiv, UInt8.reduceToNat, Nat.reduceAdd, Nat.reduceMul, Nat.reduceSub, Nat.reduceEqDiff, Nat.reduceLT, Nat.reduceLeDiff, Nat.reducePow, Nat.reduceDiv, Nat.reduceMod, Int.reduceLT, Int.reduceLE, Int.reduceAdd, Int.reduceMul, Int.reduceSub, Int.reduceNeg, Int.reduceToNat, Int.reducePow, Int.reduceEq, ↓reduceIte, ite_true, ite_false, if_true, if_false, ne_eq, reduceCtorEq, Int.reduceBEq, Int.reduceBNe, Nat.reduceBEq, Nat.reduceBNe, implies_true, forall_const, eq_self, reduceDIte, IntKind.bits, kPostKF_ret, kPostKF_normal, kPostX_ret, kPostX_normal, bsl, hwq, u3, a3, c3, b3, z3, k3, u4, a4, c4, b4, z4, k4, u5, a5, c5, b5, z5, k5, u23, a23, c23, b23, z23, k23, l23, u25, a25, c25, b25, z25, k25, u35, a35, c35, b35, z35, k35, l35, u60, a60, c60, b60, z60, k60, u62, a62, c62, b62, z62, k62, u68, a68, c68, b68, z68, k68, l68, u70, a70, c70, b70, z70, k70, l70, grn, gmt] | (refine awpL_loop 18 ?_; have hwq := trivial) | (refine condK_split ?_ ?_ <;> intro hwq) | (refine guardK_split ?_ ?_ <;> intro hwq) | (refine guardE_split ?_ ?_ <;> intro hwq) | (refine awp_drawW [] (by decide +kernel) ?_; have hwq := trivial) | (refine call_at [0, 1] n16 (by simp) (by decide) rfl rfl (by simp [gmt, mapT_box, V.mapTs, V.mapT, pl]) (V.les_refl _) ?_; have hwq := trivial) | fail))
    · rcases hd with ⟨_, rfl⟩ | ⟨_, h2⟩
      · exact ⟨hR, by omega, fun h _ _ => (h rfl).elim⟩
      · exact ⟨h2.room hR, h2.len, fun h _ _ => (h rfl).elim⟩
  have k2' : (k == 2) = false := by simp [k2]
  by_cases k3 : k = 3
  · subst k3
    obtain ⟨err, M', L', n17, hr, hd⟩ := gl17 P R A h v m
    refine ⟨M', c, L', ?_, hr, ?_⟩
    · refine AC_heap orders [0, 1] Try.func15 rfl (by kernel_rfl) (by kernel_rfl) Try.ntmps15 (by simp) ?_
      unfold Try.f15
      (have hwq := trivial; repeat' (first | simp (config := { maxSteps := 10000000, implicitDefEqProofs := false }) only [QH, QR, V.noimm, V.noimms, frzZs, frzZ, frzA, frzV, frzVs, frzBox, boxLen, Option.isSome, cond_true, cond_false, aopD, calW, flatV, stepX, amap, stepY, alookup, afind, aupdate, adelete, amlen, arange, ameq, mapOf, akeq, pl, V.mapT, V.mapTs, Option.bind, stepK, runK, guardD, stepE, runD, callD, compact, selB, callK, evS, ofVal, ofVals, scalar, aop, ares, mkRes, V.rn, V.rns, V.cells?, cellsAt, Go.Ai.part, aload, astore, setL, V.atom, abin, aun, intBin, shiftBin, aconv, fieldOf, aindexAddr, aindex, bound?, aslice, aarr, abuild, afill, alen, nilP, nilS, nilF, aeq, eqCells, eqCell, Go.Ai.known, strBin, abuiltin, aappend, abuildSlice, arowsFill, amakeSlice, acopy, minmax, rowsOf, numsT, notStr, isIntD, isByte, V.pz, V.pzs, T.toV, frz1, frz, scalT, scalTs, chunkT, List.range, List.range.loop, Int.reduceTDiv, Int.reduceTMod, Int.reduceFDiv, UInt8.reduceToNat, Nat.reduceAdd, Nat.reduceMul, Nat.reduceSub, Nat.reduceEqDiff, Nat.reduceLT, Nat.reduceLeDiff, Nat.reducePow, Nat.reduceDiv, Nat.reduceMod, Int.reduceLT, Int.reduceLE, Int.reduceAdd, Int.reduceMul, Int.reduceSub, Int.reduceNeg, Int.reduceToNat, Int.reducePow, Int.reduceEq, ↓reduceIte, ite_true, ite_false, if_true, if_false, ne_eq, reduceCtorEq, Int.reduceBEq, Int.reduceBNe, Nat.reduceBEq, Nat.reduceBNe, implies_true, forall_const, eq_self, reduceDIte, IntKind.bits, kPostKF_ret, kPostKF_normal, kPostX_ret, kPostX_normal, bsl, hwq, u3, a3, c3, b3, z3, k3, u4, a4, c4, b4, z4, k4, u5, a5, c5, b5, z5, k5, u23, a23, c23, b23, z23, k23, l23, u25, a25, c25, b25, z25, k25, u35, a35, c35, b35, z35, k35, l35, u60, a60, c60, b60, z60, k60, u62, a62, c62, b62, z62, k62, u68, a68, c68, b68, z68, k68, l68, u70, a70, c70, b70, z70, k70, l70, grn, gmt] | (refine awpL_loop 18 ?_; have hwq := trivial) | (refine condK_split ?_ ?_ <;> intro hwq) | (refine guardK_split ?_ ?_ <;> intro hwq) | (refine guardE_split ?_ ?_ <;> intro hwq) | (refine awp_drawW [] (by decide +kernel) ?_; have hwq := trivial) | (refine call_at [0, 1] n17 (by simp) (by decide) rfl rfl (by simp [gmt, mapT_box, V.mapTs, V.mapT, pl]) (V.les_refl _) ?_; have hwq := trivial) | fail))
    · rcases hd with ⟨_, rfl⟩ | ⟨_, h2⟩
      · exact ⟨hR, by omega, fun _ h _ => (h rfl).elim⟩
      · exact ⟨by omega, by omega, fun _ h _ => (h rfl).elim⟩
  have k3' : (k == 3) = false := by simp [k3]
  by_cases k5 : k = 5
  · subst k5
    have n13 := gq13 P R A h (by omega) hA t
    refine ⟨_, c, _, ?_, h.filter (fun e => !(!e.st && decide (e.t + A ≤ t))), ?_, ?_, fun _ _ _ e he hs => List.mem_filter.2 ⟨he, by simp [hs]⟩⟩
    · refine AC_heap orders [0, 1] Try.func15 rfl (by kernel_rfl) (by kernel_rfl) Try.ntmps15 (by simp) ?_
      unfold Try.f15
      (have hwq := trivial; repeat' (first | simp (config := { maxSteps := 10000000, implicitDefEqProofs := false }) only [QH, QR, V.noimm, V.noimms, frzZs, frzZ, frzA, frzV, frzVs, frzBox, boxLen, Option.isSome, cond_true, cond_false, aopD, calW, flatV, stepX, amap, stepY, alookup, afind, aupdate, adelete, amlen, arange, ameq, mapOf, akeq, pl, V.mapT, V.mapTs, Option.bind, stepK, runK, guardD, stepE, runD, callD, compact, selB, callK, evS, ofVal, ofVals, scalar, aop, ares, mkRes, V.rn, V.rns, V.cells?, cellsAt, Go.Ai.part, aload, astore, setL, V.atom, abin, aun, intBin, shiftBin, aconv, fieldOf, aindexAddr, aindex, bound?, aslice, aarr, abuild, afill, alen, nilP, nilS, nilF, aeq, eqCells, eqCell, Go.Ai.known, strBin, abuiltin, aappend, abuildSlice, arowsFill, amakeSlice, acopy, minmax, rowsOf, numsT, notStr, isIntD, isByte, V.pz, V.pzs, T.toV, frz1, frz, scalT, scalTs, chunkT, List.range, List.range.loop, Int.reduceTDiv, Int.reduceTMod, Int.reduceFDiv, UInt8.reduceToNat, Nat.reduceAdd, Nat.reduceMul, Nat.reduceSub, Nat.reduceEqDiff, Nat.reduceLT, Nat.reduceLeDiff, Nat.reducePow, Nat.reduceDiv, Nat.reduceMod, Int.reduceLT, Int.reduceLE, Int.reduceAdd, Int.reduceMul, Int.reduceSub, Int.reduceNeg, Int.reduceToNat, Int.reducePow, Int.reduceEq, ↓reduceIte, ite_true, ite_false, if_true, if_false, ne_eq, reduceCtorEq, Int.reduceBEq, Int.reduceBNe, Nat.reduceBEq, Nat.reduceBNe, implies_true, forall_const, eq_self, reduceDIte, IntKind.bits, kPostKF_ret, kPostKF_normal, kPostX_ret, kPostX_normal, bsl, hwq, u3, a3, c3, b3, z3, k3, u4, a4, c4, b4, z4, k4, u5, a5, c5, b5, z5, k5, u23, a23, c23, b23, z23, k23, l23, u25, a25, c25, b25, z25, k25, u35, a35, c35, b35, z35, k35, l35, u60, a60, c60, b60, z60, k60, u62, a62, c62, b62, z62, k62, u68, a68, c68, b68, z68, k68, l68, u70, a70, c70, b70, z70, k70, l70, grn, gmt] | (refine awpL_loop 18 ?_; have hwq := trivial) | (refine condK_split ?_ ?_ <;> intro hwq) | (refine guardK_split ?_ ?_ <;> intro hwq) | (refine guardE_split ?_ ?_ <;> intro hwq) | (refine awp_drawW [] (by decide +kernel) ?_; have hwq := trivial) | (refine call_at [0, 1] n13 (by simp) (by decide) rfl rfl (by simp [gmt, mapT_box, V.mapTs, V.mapT, pl]) (V.les_refl _) ?_; have hwq := trivial) | fail))
    · have := flt (fun e => !(!e.st && decide (e.t + A ≤ t))); omega
    · have := flt (fun e => !(!e.st && decide (e.t + A ≤ t))); omega
  have k5' : (k == 5) = false := by simp [k5]
  by_cases k6 : k = 6
  · subst k6
    have n25 := gq25 P R A h (by omega) p
    refine ⟨_, c, _, ?_, h.filter (fun e => !(!e.st && decide (e.p = p))), ?_, ?_, fun _ _ _ e he hs => List.mem_filter.2 ⟨he, by simp [hs]⟩⟩
    · refine AC_heap orders [0, 1] Try.func15 rfl (by kernel_rfl) (by kernel_rfl) Try.ntmps15 (by simp) ?_
      unfold Try.f15
      (have hwq := trivial; repeat' (first | simp (config := { maxSteps := 10000000, implicitDefEqProofs := false }) only [QH, QR, V.noimm, V.noimms, frzZs, frzZ, frzA, frzV, frzVs, frzBox, boxLen, Option.isSome, cond_true, cond_false, aopD, calW, flatV, stepX, amap, stepY, alookup, afind, aupdate, adelete, amlen, arange, ameq, mapOf, akeq, pl, V.mapT, V.mapTs, Option.bind, stepK, runK, guardD, stepE, runD, callD, compact, selB, callK, evS, ofVal, ofVals, scalar, aop, ares, mkRes, V.rn, V.rns, V.cells?, cellsAt, Go.Ai.part, aload, astore, setL, V.atom, abin, aun, intBin, shiftBin, aconv, fieldOf, aindexAddr, aindex, bound?, aslice, aarr, abuild, afill, alen, nilP, nilS, nilF, aeq, eqCells, eqCell, Go.Ai.known, strBin, abuiltin, aappend, abuildSlice, arowsFill, amakeSlice, acopy, minmax, rowsOf, numsT, notStr, isIntD, isByte, V.pz, V.pzs, T.toV, frz1, frz, scalT, scalTs, chunkT, List.range, List.range.loop, Int.reduceTDiv, Int.reduceTMod, Int.reduceFDiv, UInt8.reduceToNat, Nat.reduceAdd, Nat.reduceMul, Nat.reduceSub, Nat.reduceEqDiff, Nat.reduceLT, Nat.reduceLeDiff, Nat.reducePow, Nat.reduceDiv, Nat.reduceMod, Int.reduceLT, Int.reduceLE, Int.reduceAdd, Int.reduceMul, Int.reduceSub, Int.reduceNeg, Int.reduceToNat, Int.reducePow, Int.reduceEq, ↓reduceIte, ite_true, ite_false, if_true, if_false, ne_eq, reduceCtorEq, Int.reduceBEq, Int.reduceBNe, Nat.reduceBEq, Nat.reduceBNe, implies_true, forall_const, eq_self, reduceDIte, IntKind.bits, kPostKF_ret, kPostKF_normal, kPostX_ret, kPostX_normal, bsl, hwq, u3, a3, c3, b3, z3, k3, u4, a4, c4, b4, z4, k4, u5, a5, c5, b5, z5, k5, u23, a23, c23, b23, z23, k23, l23, u25, a25, c25, b25, z25, k25, u35, a35, c35, b35, z35, k35, l35, u60, a60, c60, b60, z60, k60, u62, a62, c62, b62, z62, k62, u68, a68, c68, b68, z68, k68, l68, u70, a70, c70, b70, z70, k70, l70, grn, gmt] | (refine awpL_loop 18 ?_; have hwq := trivial) | (refine condK_split ?_ ?_ <;> intro hwq) | (refine guardK_split ?_ ?_ <;> intro hwq) | (refine guardE_split ?_ ?_ <;> intro hwq) | (refine awp_drawW [] (by decide +kernel) ?_; have hwq := trivial) | (refine call_at [0, 1] n25 (by simp) (by decide) rfl rfl (by simp [gmt, mapT_box, V.mapTs, V.mapT, pl]) (V.les_refl _) ?_; have hwq := trivial) | fail))
    · have := flt (fun e => !(!e.st && decide (e.p = p))); omega
    · have := flt (fun e => !(!e.st && decide (e.p = p))); omega
  have k6' : (k == 6) = false := by simp [k6]
  by_cases k7 : k = 7
  · subst k7
    have n27 := gq27 P R A h (by omega) v
    refine ⟨_, c, _, ?_, h.filter (fun e => !decide (e.v = v)), ?_, ?_, fun _ _ h => (h rfl).elim⟩
    · refine AC_heap orders [0, 1] Try.func15 rfl (by kernel_rfl) (by kernel_rfl) Try.ntmps15 (by simp) ?_
      unfold Try.f15
      (have hwq := trivial; repeat' (first | simp (config := { maxSteps := 10000000, implicitDefEqProofs := false }) only [QH, QR, V.noimm, V.noimms, frzZs, frzZ, frzA, frzV, frzVs, frzBox, boxLen, Option.isSome, cond_true, cond_false, aopD, calW, flatV, stepX, amap, stepY, alookup, afind, aupdate, adelete, amlen, arange, ameq, mapOf, akeq, pl, V.mapT, V.mapTs, Option.bind, stepK, runK, guardD, stepE, runD, callD, compact, selB, callK, evS, ofVal, ofVals, scalar, aop, ares, mkRes, V.rn, V.rns, V.cells?, cellsAt, Go.Ai.part, aload, astore, setL, V.atom, abin, aun, intBin, shiftBin, aconv, fieldOf, aindexAddr, aindex, bound?, aslice, aarr, abuild, afill, alen, nilP, nilS, nilF, aeq, eqCells, eqCell, Go.Ai.known, strBin, abuiltin, aappend, abuildSlice, arowsFill, amakeSlice, acopy, minmax, rowsOf, numsT, notStr, isIntD, isByte, V.pz, V.pzs, T.toV, frz1, frz, scalT, scalTs, chunkT, List.range, List.range.loop, Int.reduceTDiv, Int.reduceTMod, Int.reduceFDiv, UInt8.reduceToNat, Nat.reduceAdd, Nat.reduceMul, Nat.reduceSub, Nat.reduceEqDiff, Nat.reduceLT, Nat.reduceLeDiff, Nat.reducePow, Nat.reduceDiv, Nat.reduceMod, Int.reduceLT, Int.reduceLE, Int.reduceAdd, Int.reduceMul, Int.reduceSub, Int.reduceNeg, Int.reduceToNat, Int.reducePow, Int.reduceEq, ↓reduceIte, ite_true, ite_false, if_true, if_false, ne_eq, reduceCtorEq, Int.reduceBEq, Int.reduceBNe, Nat.reduceBEq, Nat.reduceBNe, implies_true, forall_const, eq_self, reduceDIte, IntKind.bits, kPostKF_ret, kPostKF_normal, kPostX_ret, kPostX_normal, bsl, hwq, u3, a3, c3, b3, z3, k3, u4, a4, c4, b4, z4, k4, u5, a5, c5, b5, z5, k5, u23, a23, c23, b23, z23, k23, l23, u25, a25, c25, b25, z25, k25, u35, a35, c35, b35, z35, k35, l35, u60, a60, c60, b60, z60, k60, u62, a62, c62, b62, z62, k62, u68, a68, c68, b68, z68, k68, l68, u70, a70, c70, b70, z70, k70, l70, grn, gmt] | (refine awpL_loop 18 ?_; have hwq := trivial) | (refine condK_split ?_ ?_ <;> intro hwq) | (refine guardK_split ?_ ?_ <;> intro hwq) | (refine guardE_split ?_ ?_ <;> intro hwq) | (refine awp_drawW [] (by decide +kernel) ?_; have hwq := trivial) | (refine call_at [0, 1] n27 (by simp) (by decide) rfl rfl (by simp [gmt, mapT_box, V.mapTs, V.mapT, pl]) (V.les_refl _) ?_; have hwq := trivial) | fail))
    · have := flt (fun e => !decide (e.v = v)); omega
    · have := flt (fun e => !decide (e.v = v)); omega
  have k7' : (k == 7) = false := by simp [k7]
  refine ⟨M, c, L, ?_, h, hR, by omega, fun _ _ _ e he _ => he⟩
  refine AC_heap orders [0, 1] Try.func15 rfl (by kernel_rfl) (by kernel_rfl) Try.ntmps15 (by simp) ?_
  unfold Try.f15
  (have hwq := trivial; repeat' (first | simp (config := { maxSteps := 10000000, implicitDefEqProofs := false }) only [QH, QR, V.noimm, V.noimms, frzZs, frzZ, frzA, frzV, frzVs, frzBox, boxLen, Option.isSome, cond_true, cond_false, aopD, calW, flatV, stepX, amap, stepY, alookup, afind, aupdate, adelete, amlen, arange, ameq, mapOf, akeq, pl, V.mapT, V.mapTs, Option.bind, stepK, runK, guardD, stepE, runD, callD, compact, selB, callK, evS, ofVal, ofVals, scalar, aop, ares, mkRes, V.rn, V.rns, V.cells?, cellsAt, Go.Ai.part, aload, astore, setL, V.atom, abin, aun, intBin, shiftBin, aconv, fieldOf, aindexAddr, aindex, bound?, aslice, aarr, abuild, afill, alen, nilP, nilS, nilF, aeq, eqCells, eqCell, Go.Ai.known, strBin, abuiltin, aappend, abuildSlice, arowsFill, amakeSlice, acopy, minmax, rowsOf, numsT, notStr, isIntD, isByte, V.pz, V.pzs, T.toV, frz1, frz, scalT, scalTs, chunkT, List.range, List.range.loop, Int.reduceTDiv, Int.reduceTMod, Int.reduceFDiv, UInt8.reduceToNat, Nat.reduceAdd, Nat.reduceMul, Nat.reduceSub, Nat.reduceEqDiff, Nat.reduceLT, Nat.reduceLeDiff, Nat.reducePow, Nat.reduceDiv, Nat.reduceMod, Int.reduceLT, Int.reduceLE, Int.reduceAdd, Int.reduceMul, Int.reduceSub, Int.reduceNeg, Int.reduceToNat, Int.reducePow, Int.reduceEq, ↓reduceIte, ite_true, ite_false, if_true, if_false, ne_eq, reduceCtorEq, Int.reduceBEq, Int.reduceBNe, Nat.reduceBEq, Nat.reduceBNe, implies_true, forall_const, eq_self, reduceDIte, IntKind.bits, kPostKF_ret, kPostKF_normal, kPostX_ret, kPostX_normal, bsl, hwq, u3, a3, c3, b3, z3, k3, u4, a4, c4, b4, z4, k4, u5, a5, c5, b5, z5, k5, u23, a23, c23, b23, z23, k23, l23, u25, a25, c25, b25, z25, k25, u35, a35, c35, b35, z35, k35, l35, u60, a60, c60, b60, z60, k60, u62, a62, c62, b62, z62, k62, u68, a68, c68, b68, z68, k68, l68, u70, a70, c70, b70, z70, k70, l70, grn, gmt, k1', k2', k3', k5', k6', k7'] | (refine awpL_loop 18 ?_; have hwq := trivial) | (refine condK_split ?_ ?_ <;> intro hwq) | (refine guardK_split ?_ ?_ <;> intro hwq) | (refine guardE_split ?_ ?_ <;> intro hwq) | (refine awp_drawW [] (by decide +kernel) ?_; have hwq := trivial) | fail))
end Go.Ai
