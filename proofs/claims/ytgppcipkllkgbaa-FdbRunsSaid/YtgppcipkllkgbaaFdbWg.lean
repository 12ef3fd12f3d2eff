/- Contracts of functions of the loaded program: called with data in the ranges that each names, it returns this value and writes to no old memory. -/
import Derived.Test.YtgppcipkllkgbaaFdbWf
set_option linter.unusedVariables false
set_option linter.unusedSimpArgs false
set_option maxHeartbeats 4000000
set_option maxRecDepth 100000
namespace Go.Ai
open Go.Proofs

theorem gq17x (P R A : Int) {M : List Ev} {c : Nat} {L : List Ent} (h : Rep M c L) (v : Int) (m : Mc) :
    ∃ M' : List Ev, AC Try.prog 17 [.ptr 0 0 0, vI v, mV m] (hG P R A M c) (eqS (vI (unL L v m).1) (hG P R A M' c)) ∧ Rep M' c (unL L v m).2 := by
  have n31 := gq31 P R A M c
  have hk := gkeq v v m m
  have hf := findG v m M
  cases hj : L.findIdx? (isK v m) with
  | none =>
    rw [h.none hj] at hf
    have e0 : unL L v m = (72, L) := by unfold unL; rw [hj]
    rw [e0]
    refine ⟨M, ?_, h⟩
    refine AC_heap orders [0, 1] Try.func17 rfl (by kernel_rfl) (by kernel_rfl) Try.ntmps17 (by simp) ?_
    unfold Try.f17
    (have hwq := trivial; repeat' (first | simp (config := { maxSteps := 10000000, implicitDefEqProofs := false }) only [QH, QR, V.noimm, V.noimms, frzZs, frzZ, frzA, frzV, frzVs, frzBox, boxLen, Option.isSome, cond_true, cond_false, aopD, calW, flatV, stepX, amap, stepY, alookup, afind, aupdate, adelete, amlen, arange, ameq, mapOf, akeq, pl, V.mapT, V.mapTs, Option.bind, stepK, runK, guardD, stepE, runD, callD, compact, selB, callK, evS, ofVal, ofVals, scalar, aop, ares, mkRes, V.rn, V.rns, V.cells?, cellsAt, Go.Ai.part, aload, astore, setL, V.atom, abin, aun, intBin, shiftBin, aconv, fieldOf, aindexAddr, aindex, bound?, aslice, aarr, abuild, afill, alen, nilP, nilS, nilF, aeq, eqCells, eqCell, Go.Ai.known, strBin, abuiltin, aappend, abuildSlice, arowsFill, amakeSlice, acopy, minmax, rowsOf, numsT, notStr, isIntD, isByte, V.pz, V.pzs, T.toV, frz1, frz, scalT, scalTs, chunkT, List.range, List.range.loop, Int.reduceTDiv, Int.reduceTMod, Int.reduceFDiv, UInt8.reduceToNat, Nat.reduceAdd, Nat.reduceMul, Nat.reduceSub, Nat.reduceEqDiff, Nat.reduceLT, Nat.reduceLeDiff, Nat.reducePow, Nat.reduceDiv, Nat.reduceMod, Int.reduceLT, Int.reduceLE, Int.reduceAdd, Int.reduceMul, Int.reduceSub, Int.reduceNeg, Int.reduceToNat, Int.reducePow, Int.reduceEq, ↓reduceIte, ite_true, ite_false, if_true, if_false, ne_eq, reduceCtorEq, Int.reduceBEq, Int.reduceBNe, Nat.reduceBEq, Nat.reduceBNe, implies_true, forall_const, eq_self, reduceDIte, IntKind.bits, kPostKF_ret, kPostKF_normal, kPostX_ret, kPostX_normal, bsl, hwq, u3, a3, c3, b3, z3, k3, u4, a4, c4, b4, z4, k4, u5, a5, c5, b5, z5, k5, u23, a23, c23, b23, z23, k23, l23, u25, a25, c25, b25, z25, k25, u26, a26, c26, b26, z26, k26, u60, a60, c60, b60, z60, k60, u62, a62, c62, b62, z62, k62, u68, a68, c68, b68, z68, k68, l68, u70, a70, c70, b70, z70, k70, l70, grn, gmt, hf, hk] | (refine awpL_loop 18 ?_; have hwq := trivial) | (refine condK_split ?_ ?_ <;> intro hwq) | (refine guardK_split ?_ ?_ <;> intro hwq) | (refine guardE_split ?_ ?_ <;> intro hwq) | (refine awp_drawW [] (by decide +kernel) ?_; have hwq := trivial) | (refine call_at [0, 1] n31 (by simp) (by decide) rfl rfl (by simp [gmt, mapT_box, V.mapTs, V.mapT, pl]) (V.les_refl _) ?_; have hwq := trivial) | fail))
  | some j =>
    obtain ⟨k, b, x, h1, hxi, hxm, h3, h4, h5⟩ := h.some hj
    rw [h5] at hf
    have hg := encG_get h4
    have hee := encG_erase M k
    have hd : L.getD j default = x := by rw [List.getD_eq_getElem?_getD, h1]; rfl
    cases hs : x.st
    · have e0 : unL L v m = (72, L) := by unfold unL; rw [hj]; simp only [hd, hs]; rfl
      rw [e0]
      refine ⟨M, ?_, h⟩
      refine AC_heap orders [0, 1] Try.func17 rfl (by kernel_rfl) (by kernel_rfl) Try.ntmps17 (by simp) ?_
      unfold Try.f17
      (have hwq := trivial; repeat' (first | simp (config := { maxSteps := 10000000, implicitDefEqProofs := false }) only [QH, QR, V.noimm, V.noimms, frzZs, frzZ, frzA, frzV, frzVs, frzBox, boxLen, Option.isSome, cond_true, cond_false, aopD, calW, flatV, stepX, amap, stepY, alookup, afind, aupdate, adelete, amlen, arange, ameq, mapOf, akeq, pl, V.mapT, V.mapTs, Option.bind, stepK, runK, guardD, stepE, runD, callD, compact, selB, callK, evS, ofVal, ofVals, scalar, aop, ares, mkRes, V.rn, V.rns, V.cells?, cellsAt, Go.Ai.part, aload, astore, setL, V.atom, abin, aun, intBin, shiftBin, aconv, fieldOf, aindexAddr, aindex, bound?, aslice, aarr, abuild, afill, alen, nilP, nilS, nilF, aeq, eqCells, eqCell, Go.Ai.known, strBin, abuiltin, aappend, abuildSlice, arowsFill, amakeSlice, acopy, minmax, rowsOf, numsT, notStr, isIntD, isByte, V.pz, V.pzs, T.toV, frz1, frz, scalT, scalTs, chunkT, List.range, List.range.loop, Int.reduceTDiv, Int.reduceTMod, Int.reduceFDiv, UInt8.reduceToNat, Nat.reduceAdd, Nat.reduceMul, Nat.reduceSub, Nat.reduceEqDiff, Nat.reduceLT, Nat.reduceLeDiff, Nat.reducePow, Nat.reduceDiv, Nat.reduceMod, Int.reduceLT, Int.reduceLE, Int.reduceAdd, Int.reduceMul, Int.reduceSub, Int.reduceNeg, Int.reduceToNat, Int.reducePow, Int.reduceEq, ↓reduceIte, ite_true, ite_false, if_true, if_false, ne_eq, reduceCtorEq, Int.reduceBEq, Int.reduceBNe, Nat.reduceBEq, Nat.reduceBNe, implies_true, forall_const, eq_self, reduceDIte, IntKind.bits, kPostKF_ret, kPostKF_normal, kPostX_ret, kPostX_normal, bsl, hwq, u3, a3, c3, b3, z3, k3, u4, a4, c4, b4, z4, k4, u5, a5, c5, b5, z5, k5, u23, a23, c23, b23, z23, k23, l23, u25, a25, c25, b25, z25, k25, u26, a26, c26, b26, z26, k26, u60, a60, c60, b60, z60, k60, u62, a62, c62, b62, z62, k62, u68, a68, c68, b68, z68, k68, l68, u70, a70, c70, b70, z70, k70, l70, grn, gmt, hf, hk, hg, hs] | (refine awpL_loop 18 ?_; have hwq := trivial) | (refine condK_split ?_ ?_ <;> intro hwq) | (refine guardK_split ?_ ?_ <;> intro hwq) | (refine guardE_split ?_ ?_ <;> intro hwq) | (refine awp_drawW [] (by decide +kernel) ?_; have hwq := trivial) | (refine call_at [0, 1] n31 (by simp) (by decide) rfl rfl (by simp [gmt, mapT_box, V.mapTs, V.mapT, pl]) (V.les_refl _) ?_; have hwq := trivial) | fail))
    · have e1 : (M.map (·.1))[k]? = some x := by simp [h4]
      have e0 : unL L v m = (0, L.eraseIdx j) := by unfold unL; rw [hj]; simp only [hd, hs]; rfl
      rw [e0]
      refine ⟨M.eraseIdx k, ?_, ⟨?_, h.srt.sublist (List.eraseIdx_sublist L j), fun e he => h.ok e (List.mem_of_mem_eraseIdx he), h.bnd.sublist ((List.eraseIdx_sublist M k).map _), fun e he => h.lt e (List.mem_of_mem_eraseIdx he)⟩⟩
      · refine AC_heap orders [0, 1] Try.func17 rfl (by kernel_rfl) (by kernel_rfl) Try.ntmps17 (by simp) ?_
        unfold Try.f17
        (have hwq := trivial; repeat' (first | simp (config := { maxSteps := 10000000, implicitDefEqProofs := false }) only [QH, QR, V.noimm, V.noimms, frzZs, frzZ, frzA, frzV, frzVs, frzBox, boxLen, Option.isSome, cond_true, cond_false, aopD, calW, flatV, stepX, amap, stepY, alookup, afind, aupdate, adelete, amlen, arange, ameq, mapOf, akeq, pl, V.mapT, V.mapTs, Option.bind, stepK, runK, guardD, stepE, runD, callD, compact, selB, callK, evS, ofVal, ofVals, scalar, aop, ares, mkRes, V.rn, V.rns, V.cells?, cellsAt, Go.Ai.part, aload, astore, setL, V.atom, abin, aun, intBin, shiftBin, aconv, fieldOf, aindexAddr, aindex, bound?, aslice, aarr, abuild, afill, alen, nilP, nilS, nilF, aeq, eqCells, eqCell, Go.Ai.known, strBin, abuiltin, aappend, abuildSlice, arowsFill, amakeSlice, acopy, minmax, rowsOf, numsT, notStr, isIntD, isByte, V.pz, V.pzs, T.toV, frz1, frz, scalT, scalTs, chunkT, List.range, List.range.loop, Int.reduceTDiv, Int.reduceTMod, Int.reduceFDiv, UInt8.reduceToNat, Nat.reduceAdd, Nat.reduceMul, Nat.reduceSub, Nat.reduceEqDiff, Nat.reduceLT, Nat.reduceLeDiff, Nat.reducePow, Nat.reduceDiv, Nat.reduceMod, Int.reduceLT, Int.reduceLE, Int.reduceAdd, Int.reduceMul, Int.reduceSub, Int.reduceNeg, Int.reduceToNat, Int.reducePow, Int.reduceEq, ↓reduceIte, ite_true, ite_false, if_true, if_false, ne_eq, reduceCtorEq, Int.reduceBEq, Int.reduceBNe, Nat.reduceBEq, Nat.reduceBNe, implies_true, forall_const, eq_self, reduceDIte, IntKind.bits, kPostKF_ret, kPostKF_normal, kPostX_ret, kPostX_normal, bsl, hwq, u3, a3, c3, b3, z3, k3, u4, a4, c4, b4, z4, k4, u5, a5, c5, b5, z5, k5, u23, a23, c23, b23, z23, k23, l23, u25, a25, c25, b25, z25, k25, u26, a26, c26, b26, z26, k26, u60, a60, c60, b60, z60, k60, u62, a62, c62, b62, z62, k62, u68, a68, c68, b68, z68, k68, l68, u70, a70, c70, b70, z70, k70, l70, grn, gmt, hf, hk, hg, hs, hee] | (refine awpL_loop 18 ?_; have hwq := trivial) | (refine condK_split ?_ ?_ <;> intro hwq) | (refine guardK_split ?_ ?_ <;> intro hwq) | (refine guardE_split ?_ ?_ <;> intro hwq) | (refine awp_drawW [] (by decide +kernel) ?_; have hwq := trivial) | (refine call_at [0, 1] n31 (by simp) (by decide) rfl rfl (by simp [gmt, mapT_box, V.mapTs, V.mapT, pl]) (V.les_refl _) ?_; have hwq := trivial) | fail))
      · rw [map_eraseIdx']
        exact (List.perm_cons x).1 ((perm_erase e1).symm.trans (h.perm.trans (perm_erase h1)))

theorem putL_len (R : Int) {L : List Ent} (hs : Srt L) (e : Ent) : (putL R L e).2.length ≤ L.length + 1 := by
  rcases putL_ok R hs e with ⟨_, h⟩ | ⟨_, h⟩
  · rw [h]; omega
  · exact h.len
theorem unL_len (L : List Ent) (v : Int) (m : Mc) : (unL L v m).2.length ≤ L.length := by
  unfold unL
  split
  · split
    · simp only [List.length_eraseIdx]; split <;> omega
    · exact Nat.le_refl _
  · exact Nat.le_refl _
/-- Learn, in both. -/
theorem gz10 (P R A : Int) {M : List Ev} {c : Nat} {L : List Ent} (h : Rep M c L) (hl : L.length ≤ 90000) (v p t : Int) (m : Mc) (hm : okM m) (hP : P ≤ 8) :
    ∃ err M' c' L', AC Try.prog 10 [.ptr 0 0 0, vI v, mV m, vI p, vI t] (hG P R A M c) (eqS (vI err) (hG P R A M' c')) ∧ AC Try.prog 20 [dbV P R A L, vI v, mV m, vI p, vI t] [] (eqR (.tuple [dbV P R A L', vI err])) ∧ Rep M' c' L' ∧ L'.length ≤ L.length + 1 := by
  by_cases hA : mayP P v m p ∧ 0 ≤ t ∧ t ≤ 1099511627776
  · by_cases hs : ∃ x, lookL L v m = some x ∧ x.st = true
    · obtain ⟨x, h1, h2⟩ := hs
      exact ⟨0, M, c, L, gq10s P R A h v p t m hm hA.1 hA.2 x h1 h2, gw20s P R A L hl v p t m hm hA.1 hA.2 x h1 h2, h, by omega⟩
    · have hst : ∀ x, lookL L v m = some x → x.st = false := by
        intro x hx
        cases hxs : x.st with
        | false => rfl
        | true => exact (hs ⟨x, hx, hxs⟩).elim
      obtain ⟨M', c', h1, h2⟩ := gq10 P R A h v p t m hm hP hA.1 hA.2 hst
      exact ⟨_, M', c', _, h1, gw20 P R A L hl h.srt (fun x hx => (h.ok x hx).1) v p t m hm hA.1 hA.2 hst, h2, putL_len R h.srt _⟩
  · exact ⟨70, M, c, L, gq10n P R A M c v p t m hm hA, gw20n P R A L v p t m hm hA, h, by omega⟩
theorem gz16 (P R A : Int) {M : List Ev} {c : Nat} {L : List Ent} (h : Rep M c L) (hl : L.length ≤ 90000) (v p : Int) (m : Mc) (hm : okM m) (hP : P ≤ 8) :
    ∃ err M' c' L', AC Try.prog 16 [.ptr 0 0 0, vI v, mV m, vI p] (hG P R A M c) (eqS (vI err) (hG P R A M' c')) ∧ AC Try.prog 21 [dbV P R A L, vI v, mV m, vI p] [] (eqR (.tuple [dbV P R A L', vI err])) ∧ Rep M' c' L' ∧ L'.length ≤ L.length + 1 := by
  by_cases hA : mayP P v m p
  · obtain ⟨M', c', h1, h2⟩ := gq16 P R A h v p m hm hP hA
    exact ⟨_, M', c', _, h1, gw21 P R A L hl h.srt (fun x hx => (h.ok x hx).1) v p m hm hA, h2, putL_len R h.srt _⟩
  · exact ⟨70, M, c, L, gq16n P R A M c v p m hm hA, gw21n P R A L v p m hm hA, h, by omega⟩
theorem gz17 (P R A : Int) {M : List Ev} {c : Nat} {L : List Ent} (h : Rep M c L) (hl : L.length ≤ 90000) (v : Int) (m : Mc) :
    ∃ err M' c' L', AC Try.prog 17 [.ptr 0 0 0, vI v, mV m] (hG P R A M c) (eqS (vI err) (hG P R A M' c')) ∧ AC Try.prog 22 [dbV P R A L, vI v, mV m] [] (eqR (.tuple [dbV P R A L', vI err])) ∧ Rep M' c' L' ∧ L'.length ≤ L.length + 1 := by
  obtain ⟨M', h1, h2⟩ := gq17x P R A h v m
  have := unL_len L v m
  exact ⟨_, M', c, _, h1, gw22 P R A L hl v m, h2, by omega⟩
end Go.Ai
