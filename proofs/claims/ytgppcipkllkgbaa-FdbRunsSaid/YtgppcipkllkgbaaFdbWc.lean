/- Contracts of functions of the loaded program: called with data in the ranges that each names, it returns this value and writes to no old memory. -/
import Derived.Test.YtgppcipkllkgbaaFdbWb
set_option linter.unusedVariables false
set_option linter.unusedSimpArgs false
set_option maxHeartbeats 4000000
set_option maxRecDepth 100000
namespace Go.Ai
open Go.Proofs

theorem srt_one {L : List Ent} (hs : Srt L) {v : Int} {m : Mc} {k : Nat} (hk : L.findIdx? (isK v m) = some k) : ∀ x ∈ L.eraseIdx k, isK v m x = false := by
  obtain ⟨e, he, hke, _⟩ := look_idx hk
  intro x hx
  have hn := srt_nod hs
  obtain ⟨hkl, hee⟩ := List.getElem?_eq_some_iff.1 he
  rw [Bool.eq_false_iff]
  intro hc
  obtain ⟨i, hi, hix⟩ := List.mem_eraseIdx_iff_getElem.1 hx
  have e1 : keyOf x = keyOf e := by
    unfold isK at hc hke
    simp only [decide_eq_true_eq] at hc hke
    unfold keyOf
    rw [hc.1, hc.2, hke.1, hke.2]
  obtain ⟨hil, hne, hxe⟩ := (⟨hi, hix⟩ : ∃ h : i < L.length, i ≠ k ∧ L[i] = x)
  have h1 : (L.map keyOf)[i]? = (L.map keyOf)[k]? := by
    rw [List.getElem?_map, List.getElem?_map, he, List.getElem?_eq_getElem hil, hxe]
    simp [e1]
  exact hne ((List.getElem?_inj (by simpa using hil) hn).1 h1)
theorem gw41 (P R A : Int) (L : List Ent) (hl : L.length ≤ 90000) (hs : Srt L) (hok : ∀ x ∈ L, okM x.m) (e : Ent) (he : okM e.m) : AC Try.prog 41 [dbV P R A L, entV e] [] (eqR (.tuple [dbV P R A (putL R L e).2, vI (putL R L e).1])) := by
  have n40 := gw40 P R A e.v e.m L (by omega)
  unfold atZ at n40
  unfold putL
  cases hf : L.findIdx? (isK e.v e.m) with
  | some k =>
    rw [hf] at n40
    obtain ⟨x, hx, _, _⟩ := look_idx hf
    have hk : k < L.length := (List.getElem?_eq_some_iff.1 hx).1
    have n42 := gw42 P R A L (by omega) k hk
    have n50 := gw50 P R A (L.eraseIdx k) (by rw [List.length_eraseIdx_of_lt hk]; omega) (fun y hy => hok y (List.mem_of_mem_eraseIdx hy)) e he (srt_one hs hf)
    have hk0 : (0 : Int) ≤ (k : Int) := by omega
    refine AC_frozen orders Try.func41 rfl (by kernel_rfl) (by kernel_rfl) Try.ntmps41 (by simp) ?_
    unfold Try.f41
    (have hwq := trivial; repeat' (first | simp (config := { maxSteps := 10000000, implicitDefEqProofs := false }) only [QH, QR, V.noimm, V.noimms, frzZs, frzZ, frzA, frzV, frzVs, frzBox, boxLen, Option.isSome, cond_true, cond_false, aopD, calW, flatV, stepX, amap, stepY, alookup, afind, aupdate, adelete, amlen, arange, ameq, mapOf, akeq, pl, V.mapT, V.mapTs, Option.bind, stepK, runK, guardD, stepE, runD, callD, compact, selB, callK, evS, ofVal, ofVals, scalar, aop, ares, mkRes, V.rn, V.rns, V.cells?, cellsAt, Go.Ai.part, aload, astore, setL, V.atom, abin, aun, intBin, shiftBin, aconv, fieldOf, aindexAddr, aindex, bound?, aslice, aarr, abuild, afill, alen, nilP, nilS, nilF, aeq, eqCells, eqCell, Go.Ai.known, strBin, abuiltin, aappend, abuildSlice, arowsFill, amakeSlice, acopy, minmax, rowsOf, numsT, notStr, isIntD, isByte, V.pz, V.pzs, T.toV, frz1, frz, scalT, scalTs, chunkT, List.range, List.range.loop, Int.reduceTDiv, Int.reduceTMod, Int.reduceFDiv, UInt8.reduceToNat, Nat.reduceAdd, Nat.reduceMul, Nat.reduceSub, Nat.reduceEqDiff, Nat.reduceLT, Nat.reduceLeDiff, Nat.reducePow, Nat.reduceDiv, Nat.reduceMod, Int.reduceLT, Int.reduceLE, Int.reduceAdd, Int.reduceMul, Int.reduceSub, Int.reduceNeg, Int.reduceToNat, Int.reducePow, Int.reduceEq, ↓reduceIte, ite_true, ite_false, if_true, if_false, ne_eq, reduceCtorEq, Int.reduceBEq, Int.reduceBNe, Nat.reduceBEq, Nat.reduceBNe, implies_true, forall_const, eq_self, reduceDIte, IntKind.bits, kPostKF_ret, kPostKF_normal, kPostX_ret, kPostX_normal, bsl, hwq, u3, a3, c3, b3, z3, k3, u4, a4, c4, b4, z4, k4, u5, a5, c5, b5, z5, k5, u23, a23, c23, b23, z23, k23, l23, u38, a38, c38, b38, z38, k38, u42, a42, c42, b42, z42, k42, l42, u50, a50, c50, b50, z50, k50, List.length_map, List.getElem?_map, Int.natCast_nonneg, List.length_append, List.map_append, hk0] | (refine awpL_loop 18 ?_; have hwq := trivial) | (refine condK_split ?_ ?_ <;> intro hwq) | (refine guardK_split ?_ ?_ <;> intro hwq) | (refine guardE_split ?_ ?_ <;> intro hwq) | (refine awp_drawW [] (by decide +kernel) ?_; have hwq := trivial) | (refine call_plain n40 rfl rfl ?_; have hwq := trivial) | (refine draw_plain n42 rfl (fun _ => rfl) ?_; have hwq := trivial) | (refine draw_plain n50 rfl (fun _ => rfl) ?_; have hwq := trivial) | fail))
  | none =>
    rw [hf] at n40
    have n51 := gw51 P R A L (by omega)
    unfold roV at n51
    have hno : ∀ x ∈ L, isK e.v e.m x = false := List.findIdx?_eq_none_iff.1 hf
    cases hr : roomL R L with
    | none =>
      rw [hr] at n51
      refine AC_frozen orders Try.func41 rfl (by kernel_rfl) (by kernel_rfl) Try.ntmps41 (by simp) ?_
      unfold Try.f41
      (have hwq := trivial; repeat' (first | simp (config := { maxSteps := 10000000, implicitDefEqProofs := false }) only [QH, QR, V.noimm, V.noimms, frzZs, frzZ, frzA, frzV, frzVs, frzBox, boxLen, Option.isSome, cond_true, cond_false, aopD, calW, flatV, stepX, amap, stepY, alookup, afind, aupdate, adelete, amlen, arange, ameq, mapOf, akeq, pl, V.mapT, V.mapTs, Option.bind, stepK, runK, guardD, stepE, runD, callD, compact, selB, callK, evS, ofVal, ofVals, scalar, aop, ares, mkRes, V.rn, V.rns, V.cells?, cellsAt, Go.Ai.part, aload, astore, setL, V.atom, abin, aun, intBin, shiftBin, aconv, fieldOf, aindexAddr, aindex, bound?, aslice, aarr, abuild, afill, alen, nilP, nilS, nilF, aeq, eqCells, eqCell, Go.Ai.known, strBin, abuiltin, aappend, abuildSlice, arowsFill, amakeSlice, acopy, minmax, rowsOf, numsT, notStr, isIntD, isByte, V.pz, V.pzs, T.toV, frz1, frz, scalT, scalTs, chunkT, List.range, List.range.loop, Int.reduceTDiv, Int.reduceTMod, Int.reduceFDiv, UInt8.reduceToNat, Nat.reduceAdd, Nat.reduceMul, Nat.reduceSub, Nat.reduceEqDiff, Nat.reduceLT, Nat.reduceLeDiff, Nat.reducePow, Nat.reduceDiv, Nat.reduceMod, Int.reduceLT, Int.reduceLE, Int.reduceAdd, Int.reduceMul, Int.reduceSub, Int.reduceNeg, Int.reduceToNat, Int.reducePow, Int.reduceEq, ↓reduceIte, ite_true, ite_false, if_true, if_false, ne_eq, reduceCtorEq, Int.reduceBEq, Int.reduceBNe, Nat.reduceBEq, Nat.reduceBNe, implies_true, forall_const, eq_self, reduceDIte, IntKind.bits, kPostKF_ret, kPostKF_normal, kPostX_ret, kPostX_normal, bsl, hwq, u3, a3, c3, b3, z3, k3, u4, a4, c4, b4, z4, k4, u5, a5, c5, b5, z5, k5, u23, a23, c23, b23, z23, k23, l23, u38, a38, c38, b38, z38, k38, u42, a42, c42, b42, z42, k42, l42, u50, a50, c50, b50, z50, k50, List.length_map, List.getElem?_map, Int.natCast_nonneg, List.length_append, List.map_append] | (refine awpL_loop 18 ?_; have hwq := trivial) | (refine condK_split ?_ ?_ <;> intro hwq) | (refine guardK_split ?_ ?_ <;> intro hwq) | (refine guardE_split ?_ ?_ <;> intro hwq) | (refine awp_drawW [] (by decide +kernel) ?_; have hwq := trivial) | (refine call_plain n40 rfl rfl ?_; have hwq := trivial) | (refine call_plain n51 rfl rfl ?_; have hwq := trivial) | fail))
    | some N =>
      rw [hr] at n51
      have hN : N.length ≤ 90000 ∧ ∀ x ∈ N, x ∈ L := by
        unfold roomL at hr
        split at hr
        · cases hr; exact ⟨hl, fun _ h => h⟩
        · split at hr
          · cases hr
            refine ⟨?_, fun x hx => List.mem_of_mem_eraseIdx hx⟩
            rw [List.length_eraseIdx]
            split <;> omega
          · simp at hr
      have n50 := gw50 P R A N (by omega) (fun y hy => hok y (hN.2 y hy)) e he (fun y hy => hno y (hN.2 y hy))
      refine AC_frozen orders Try.func41 rfl (by kernel_rfl) (by kernel_rfl) Try.ntmps41 (by simp) ?_
      unfold Try.f41
      (have hwq := trivial; repeat' (first | simp (config := { maxSteps := 10000000, implicitDefEqProofs := false }) only [QH, QR, V.noimm, V.noimms, frzZs, frzZ, frzA, frzV, frzVs, frzBox, boxLen, Option.isSome, cond_true, cond_false, aopD, calW, flatV, stepX, amap, stepY, alookup, afind, aupdate, adelete, amlen, arange, ameq, mapOf, akeq, pl, V.mapT, V.mapTs, Option.bind, stepK, runK, guardD, stepE, runD, callD, compact, selB, callK, evS, ofVal, ofVals, scalar, aop, ares, mkRes, V.rn, V.rns, V.cells?, cellsAt, Go.Ai.part, aload, astore, setL, V.atom, abin, aun, intBin, shiftBin, aconv, fieldOf, aindexAddr, aindex, bound?, aslice, aarr, abuild, afill, alen, nilP, nilS, nilF, aeq, eqCells, eqCell, Go.Ai.known, strBin, abuiltin, aappend, abuildSlice, arowsFill, amakeSlice, acopy, minmax, rowsOf, numsT, notStr, isIntD, isByte, V.pz, V.pzs, T.toV, frz1, frz, scalT, scalTs, chunkT, List.range, List.range.loop, Int.reduceTDiv, Int.reduceTMod, Int.reduceFDiv, UInt8.reduceToNat, Nat.reduceAdd, Nat.reduceMul, Nat.reduceSub, Nat.reduceEqDiff, Nat.reduceLT, Nat.reduceLeDiff, Nat.reducePow, Nat.reduceDiv, Nat.reduceMod, Int.reduceLT, Int.reduceLE, Int.reduceAdd, Int.reduceMul, Int.reduceSub, Int.reduceNeg, Int.reduceToNat, Int.reducePow, Int.reduceEq, ↓reduceIte, ite_true, ite_false, if_true, if_false, ne_eq, reduceCtorEq, Int.reduceBEq, Int.reduceBNe, Nat.reduceBEq, Nat.reduceBNe, implies_true, forall_const, eq_self, reduceDIte, IntKind.bits, kPostKF_ret, kPostKF_normal, kPostX_ret, kPostX_normal, bsl, hwq, u3, a3, c3, b3, z3, k3, u4, a4, c4, b4, z4, k4, u5, a5, c5, b5, z5, k5, u23, a23, c23, b23, z23, k23, l23, u38, a38, c38, b38, z38, k38, u42, a42, c42, b42, z42, k42, l42, u50, a50, c50, b50, z50, k50, List.length_map, List.getElem?_map, Int.natCast_nonneg, List.length_append, List.map_append] | (refine awpL_loop 18 ?_; have hwq := trivial) | (refine condK_split ?_ ?_ <;> intro hwq) | (refine guardK_split ?_ ?_ <;> intro hwq) | (refine guardE_split ?_ ?_ <;> intro hwq) | (refine awp_drawW [] (by decide +kernel) ?_; have hwq := trivial) | (refine call_plain n40 rfl rfl ?_; have hwq := trivial) | (refine call_plain n51 rfl rfl ?_; have hwq := trivial) | (refine call_plain n50 rfl rfl ?_; have hwq := trivial) | fail))
theorem gw19 (P R A : Int) (hP : 1 ≤ P ∧ P ≤ 8) (hR : 1 ≤ R ∧ R ≤ 256) (hA : 1 ≤ A ∧ A ≤ 1048576) : AC Try.prog 19 [vI P, vI R, vI A] [] (eqR (.tuple [.agg [vI P, vI R, vI A, .s (.slice none 0 0)], vI 0])) := by
  have a1 : ¬ P < 1 := by omega
  have a2 : ¬ 8 < P := by omega
  have a3 : ¬ R < 1 := by omega
  have a4 : ¬ 256 < R := by omega
  have a5 : ¬ A < 1 := by omega
  have a6 : ¬ 1048576 < A := by omega
  refine AC_plain orders Try.func19 rfl (by kernel_rfl) (by kernel_rfl) Try.ntmps19 (by simp) ?_
  unfold Try.f19
  (have hwq := trivial; repeat' (first | simp (config := { maxSteps := 10000000, implicitDefEqProofs := false }) only [QH, QR, V.noimm, V.noimms, frzZs, frzZ, frzA, frzV, frzVs, frzBox, boxLen, Option.isSome, cond_true, cond_false, aopD, calW, flatV, stepX, amap, stepY, alookup, afind, aupdate, adelete, amlen, arange, ameq, mapOf, akeq, pl, V.mapT, V.mapTs, Option.bind, stepK, runK, guardD, stepE, runD, callD, compact, selB, callK, evS, ofVal, ofVals, scalar, aop, ares, mkRes, V.rn, V.rns, V.cells?, cellsAt, Go.Ai.part, aload, astore, setL, V.atom, abin, aun, intBin, shiftBin, aconv, fieldOf, aindexAddr, aindex, bound?, aslice, aarr, abuild, afill, alen, nilP, nilS, nilF, aeq, eqCells, eqCell, Go.Ai.known, strBin, abuiltin, aappend, abuildSlice, arowsFill, amakeSlice, acopy, minmax, rowsOf, numsT, notStr, isIntD, isByte, V.pz, V.pzs, T.toV, frz1, frz, scalT, scalTs, chunkT, List.range, List.range.loop, Int.reduceTDiv, Int.reduceTMod, Int.reduceFDiv, UInt8.reduceToNat, Nat.reduceAdd, Nat.reduceMul, Nat.reduceSub, Nat.reduceEqDiff, Nat.reduceLT, Nat.reduceLeDiff, Nat.reducePow, Nat.reduceDiv, Nat.reduceMod, Int.reduceLT, Int.reduceLE, Int.reduceAdd, Int.reduceMul, Int.reduceSub, Int.reduceNeg, Int.reduceToNat, Int.reducePow, Int.reduceEq, ↓reduceIte, ite_true, ite_false, if_true, if_false, ne_eq, reduceCtorEq, Int.reduceBEq, Int.reduceBNe, Nat.reduceBEq, Nat.reduceBNe, implies_true, forall_const, eq_self, reduceDIte, IntKind.bits, kPostKF_ret, kPostKF_normal, kPostX_ret, kPostX_normal, bsl, hwq, u3, a3, c3, b3, z3, k3, u4, a4, c4, b4, z4, k4, u5, a5, c5, b5, z5, k5, u23, a23, c23, b23, z23, k23, l23, u38, a38, c38, b38, z38, k38, u42, a42, c42, b42, z42, k42, l42, u50, a50, c50, b50, z50, k50, a1, a2, a3, a4, a5, a6] | (refine awpL_loop 18 ?_; have hwq := trivial) | (refine condK_split ?_ ?_ <;> intro hwq) | (refine guardK_split ?_ ?_ <;> intro hwq) | (refine guardE_split ?_ ?_ <;> intro hwq) | (refine awp_drawW [] (by decide +kernel) ?_; have hwq := trivial) | fail))
def goodN (P R A : Int) : Prop := (1 ≤ P ∧ P ≤ 8) ∧ (1 ≤ R ∧ R ≤ 256) ∧ (1 ≤ A ∧ A ≤ 1048576)
theorem gw19n (P R A : Int) (h : ¬ goodN P R A) : AC Try.prog 19 [vI P, vI R, vI A] [] (eqR (.tuple [.agg [vI 0, vI 0, vI 0, .s (.slice none 0 0)], vI 70])) := by
  unfold goodN at h
  refine AC_plain orders Try.func19 rfl (by kernel_rfl) (by kernel_rfl) Try.ntmps19 (by simp) ?_
  unfold Try.f19
  (have hwq := trivial; repeat' (first | simp (config := { maxSteps := 10000000, implicitDefEqProofs := false }) only [QH, QR, V.noimm, V.noimms, frzZs, frzZ, frzA, frzV, frzVs, frzBox, boxLen, Option.isSome, cond_true, cond_false, aopD, calW, flatV, stepX, amap, stepY, alookup, afind, aupdate, adelete, amlen, arange, ameq, mapOf, akeq, pl, V.mapT, V.mapTs, Option.bind, stepK, runK, guardD, stepE, runD, callD, compact, selB, callK, evS, ofVal, ofVals, scalar, aop, ares, mkRes, V.rn, V.rns, V.cells?, cellsAt, Go.Ai.part, aload, astore, setL, V.atom, abin, aun, intBin, shiftBin, aconv, fieldOf, aindexAddr, aindex, bound?, aslice, aarr, abuild, afill, alen, nilP, nilS, nilF, aeq, eqCells, eqCell, Go.Ai.known, strBin, abuiltin, aappend, abuildSlice, arowsFill, amakeSlice, acopy, minmax, rowsOf, numsT, notStr, isIntD, isByte, V.pz, V.pzs, T.toV, frz1, frz, scalT, scalTs, chunkT, List.range, List.range.loop, Int.reduceTDiv, Int.reduceTMod, Int.reduceFDiv, UInt8.reduceToNat, Nat.reduceAdd, Nat.reduceMul, Nat.reduceSub, Nat.reduceEqDiff, Nat.reduceLT, Nat.reduceLeDiff, Nat.reducePow, Nat.reduceDiv, Nat.reduceMod, Int.reduceLT, Int.reduceLE, Int.reduceAdd, Int.reduceMul, Int.reduceSub, Int.reduceNeg, Int.reduceToNat, Int.reducePow, Int.reduceEq, ↓reduceIte, ite_true, ite_false, if_true, if_false, ne_eq, reduceCtorEq, Int.reduceBEq, Int.reduceBNe, Nat.reduceBEq, Nat.reduceBNe, implies_true, forall_const, eq_self, reduceDIte, IntKind.bits, kPostKF_ret, kPostKF_normal, kPostX_ret, kPostX_normal, bsl, hwq, u3, a3, c3, b3, z3, k3, u4, a4, c4, b4, z4, k4, u5, a5, c5, b5, z5, k5, u23, a23, c23, b23, z23, k23, l23, u38, a38, c38, b38, z38, k38, u42, a42, c42, b42, z42, k42, l42, u50, a50, c50, b50, z50, k50] | (refine awpL_loop 18 ?_; have hwq := trivial) | (refine condK_split ?_ ?_ <;> intro hwq) | (refine guardK_split ?_ ?_ <;> intro hwq) | (refine guardE_split ?_ ?_ <;> intro hwq) | (refine awp_drawW [] (by decide +kernel) ?_; have hwq := trivial) | fail))
  all_goals (simp only [decide_eq_false_iff_not, decide_eq_true_eq] at *; exfalso; apply h; omega)
theorem gw8n (P R A : Int) (h : ¬ goodN P R A) : AC Try.prog 8 [vI P, vI R, vI A] [] (eqR (.tuple [.s (.pointer none), vI 70])) := by
  unfold goodN at h
  refine AC_plain orders Try.func8 rfl (by kernel_rfl) (by kernel_rfl) Try.ntmps8 (by simp) ?_
  unfold Try.f8
  (have hwq := trivial; repeat' (first | simp (config := { maxSteps := 10000000, implicitDefEqProofs := false }) only [QH, QR, V.noimm, V.noimms, frzZs, frzZ, frzA, frzV, frzVs, frzBox, boxLen, Option.isSome, cond_true, cond_false, aopD, calW, flatV, stepX, amap, stepY, alookup, afind, aupdate, adelete, amlen, arange, ameq, mapOf, akeq, pl, V.mapT, V.mapTs, Option.bind, stepK, runK, guardD, stepE, runD, callD, compact, selB, callK, evS, ofVal, ofVals, scalar, aop, ares, mkRes, V.rn, V.rns, V.cells?, cellsAt, Go.Ai.part, aload, astore, setL, V.atom, abin, aun, intBin, shiftBin, aconv, fieldOf, aindexAddr, aindex, bound?, aslice, aarr, abuild, afill, alen, nilP, nilS, nilF, aeq, eqCells, eqCell, Go.Ai.known, strBin, abuiltin, aappend, abuildSlice, arowsFill, amakeSlice, acopy, minmax, rowsOf, numsT, notStr, isIntD, isByte, V.pz, V.pzs, T.toV, frz1, frz, scalT, scalTs, chunkT, List.range, List.range.loop, Int.reduceTDiv, Int.reduceTMod, Int.reduceFDiv, UInt8.reduceToNat, Nat.reduceAdd, Nat.reduceMul, Nat.reduceSub, Nat.reduceEqDiff, Nat.reduceLT, Nat.reduceLeDiff, Nat.reducePow, Nat.reduceDiv, Nat.reduceMod, Int.reduceLT, Int.reduceLE, Int.reduceAdd, Int.reduceMul, Int.reduceSub, Int.reduceNeg, Int.reduceToNat, Int.reducePow, Int.reduceEq, ↓reduceIte, ite_true, ite_false, if_true, if_false, ne_eq, reduceCtorEq, Int.reduceBEq, Int.reduceBNe, Nat.reduceBEq, Nat.reduceBNe, implies_true, forall_const, eq_self, reduceDIte, IntKind.bits, kPostKF_ret, kPostKF_normal, kPostX_ret, kPostX_normal, bsl, hwq, u3, a3, c3, b3, z3, k3, u4, a4, c4, b4, z4, k4, u5, a5, c5, b5, z5, k5, u23, a23, c23, b23, z23, k23, l23, u25, a25, c25, b25, z25, k25, u26, a26, c26, b26, z26, k26, u60, a60, c60, b60, z60, k60, u62, a62, c62, b62, z62, k62, u68, a68, c68, b68, z68, k68, l68, u70, a70, c70, b70, z70, k70, l70] | (refine awpL_loop 18 ?_; have hwq := trivial) | (refine condK_split ?_ ?_ <;> intro hwq) | (refine guardK_split ?_ ?_ <;> intro hwq) | (refine guardE_split ?_ ?_ <;> intro hwq) | (refine awp_drawW [] (by decide +kernel) ?_; have hwq := trivial) | fail))
  all_goals (simp only [decide_eq_false_iff_not, decide_eq_true_eq] at *; exfalso; apply h; omega)
end Go.Ai
