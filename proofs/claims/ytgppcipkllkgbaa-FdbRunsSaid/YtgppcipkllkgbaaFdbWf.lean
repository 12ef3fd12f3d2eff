/- Contracts of functions of the loaded program: called with data in the ranges that each names, it returns this value and writes to no old memory. -/
import Derived.Test.YtgppcipkllkgbaaFdbWe
set_option linter.unusedVariables false
set_option linter.unusedSimpArgs false
set_option maxHeartbeats 4000000
set_option maxRecDepth 100000
namespace Go.Ai
open Go.Proofs

def FkI (P R A : Int) (M : List Ev) (c : Nat) (k : Nat) (S : St) : Prop :=
  ∃ (mv seen : List Nat) (last : Nat) (Y X : List Ev) (d : Nat), S = ⟨tms [(3, .ptr 2 0 0), (17, .ptr 4 0 0)], [.box [vI P, vI R, vI A, .mref 1] false, .mp (encG M) c, .box [vI P, vI R, vI A, .mref 3] false, .mp (encG X) d, .it (some 1) c seen last], mv⟩ ∧
    (∀ t ∈ mv, 2 ≤ t) ∧ c ≤ last ∧ k = (M.filter fun e => decide (e.2 ∉ seen)).length ∧ Y.map (·.2) = seen ∧ (∀ e ∈ Y, e ∈ M) ∧ seen.Nodup ∧ X.map (·.1) = Y.map (·.1) ∧ (X.map (·.2)).Nodup ∧ ∀ e ∈ X, e.2 < d
theorem gq29 (P R A : Int) {M : List Ev} {c : Nat} {L : List Ent} (h : Rep M c L) :
    AC Try.prog 29 [.ptr 0 0 0] (hG P R A M c) (oneS (fun p : List Ev × Nat => Rep p.1 p.2 L) (fun _ => .ptr 2 0 0) (fun p => [.box [vI P, vI R, vI A, .mref 1] false, .mp (encG M) c, .box [vI P, vI R, vI A, .mref 3] false, .mp (encG p.1) p.2])) := by
  have n31 := gq31 P R A M c
  have hL := h.good
  refine AC_one orders [0, 1, 2, 3] Try.func29 rfl (by kernel_rfl) (by kernel_rfl) Try.ntmps29 (by simp) ?_
  unfold Try.f29
  (have hwq := trivial; repeat' (first | simp (config := { maxSteps := 10000000, implicitDefEqProofs := false }) only [QH, QR, V.noimm, V.noimms, frzZs, frzZ, frzA, frzV, frzVs, frzBox, boxLen, Option.isSome, cond_true, cond_false, aopD, calW, flatV, stepX, amap, stepY, alookup, afind, aupdate, adelete, amlen, arange, ameq, mapOf, akeq, pl, V.mapT, V.mapTs, Option.bind, stepK, runK, guardD, stepE, runD, callD, compact, selB, callK, evS, ofVal, ofVals, scalar, aop, ares, mkRes, V.rn, V.rns, V.cells?, cellsAt, Go.Ai.part, aload, astore, setL, V.atom, abin, aun, intBin, shiftBin, aconv, fieldOf, aindexAddr, aindex, bound?, aslice, aarr, abuild, afill, alen, nilP, nilS, nilF, aeq, eqCells, eqCell, Go.Ai.known, strBin, abuiltin, aappend, abuildSlice, arowsFill, amakeSlice, acopy, minmax, rowsOf, numsT, notStr, isIntD, isByte, V.pz, V.pzs, T.toV, frz1, frz, scalT, scalTs, chunkT, List.range, List.range.loop, Int.reduceTDiv, Int.reduceTMod, Int.reduceFDiv, UInt8.reduceToNat, Nat.reduceAdd, Nat.reduceMul, Nat.reduceSub, Nat.reduceEqDiff, Nat.reduceLT, Nat.reduceLeDiff, Nat.reducePow, Nat.reduceDiv, Nat.reduceMod, Int.reduceLT, Int.reduceLE, Int.reduceAdd, Int.reduceMul, Int.reduceSub, Int.reduceNeg, Int.reduceToNat, Int.reducePow, Int.reduceEq, ↓reduceIte, ite_true, ite_false, if_true, if_false, ne_eq, reduceCtorEq, Int.reduceBEq, Int.reduceBNe, Nat.reduceBEq, Nat.reduceBNe, implies_true, forall_const, eq_self, reduceDIte, IntKind.bits, kPostKF_ret, kPostKF_normal, kPostX_ret, kPostX_normal, bsl, hwq, u3, a3, c3, b3, z3, k3, u4, a4, c4, b4, z4, k4, u5, a5, c5, b5, z5, k5, u23, a23, c23, b23, z23, k23, l23, u25, a25, c25, b25, z25, k25, u60, a60, c60, b60, z60, k60, u62, a62, c62, b62, z62, k62, u68, a68, c68, b68, z68, k68, l68, u70, a70, c70, b70, z70, k70, l70, grn, gmt] | (refine condK_split ?_ ?_ <;> intro hwq) | (refine guardK_split ?_ ?_ <;> intro hwq) | (refine guardE_split ?_ ?_ <;> intro hwq) | (refine awp_drawW [] (by decide +kernel) ?_; have hwq := trivial) | (refine call_at [0, 1] n31 (by simp) (by decide) rfl rfl (by simp [gmt, mapT_box, V.mapTs, V.mapT, pl]) (V.les_refl _) ?_; have hwq := trivial) | fail))
  refine awp_loopK (FkI P R A M c) (M.filter fun e => decide (e.2 ∉ ([] : List Nat))).length _ (Weak.cutI 5 [3, 17] ?_ ?_) ⟨_, [], c, [], [], 0, rfl, by simp, Nat.le_refl _, rfl, rfl, by simp, by simp, rfl, by simp, by simp⟩ ?_
  · simp (config := { maxSteps := 10000000, implicitDefEqProofs := false }) only [QH, Option.isSome, cond_true, cond_false, Option.bind, selB, V.rn, V.rns, Go.Ai.known, V.pz, V.pzs, T.toV, frz1, List.range, List.range.loop, Nat.reduceAdd, Nat.reduceMul, Nat.reduceSub, Nat.reduceEqDiff, Nat.reduceLT, Nat.reduceLeDiff, Nat.reducePow, Nat.reduceDiv, Nat.reduceMod, Int.reduceLT, Int.reduceLE, Int.reduceAdd, Int.reduceMul, Int.reduceSub, Int.reduceNeg, Int.reducePow, Int.reduceEq, ↓reduceIte, ite_true, ite_false, if_true, if_false, ne_eq, reduceCtorEq, Int.reduceBEq, Int.reduceBNe, Nat.reduceBEq, Nat.reduceBNe, implies_true, forall_const, eq_self, IntKind.bits, upd_tmsS, selT_cons, selT_nil]
  · have e0 : encG [] = [] := rfl
    have e1 : ∀ f c, Blk.rn f (.mp [] c) = some (.mp [] c) := rn_mp rfl
    simp (config := { maxSteps := 10000000, implicitDefEqProofs := false }) only [QH, Option.isSome, cond_true, cond_false, Option.bind, selB, V.rn, V.rns, Go.Ai.known, V.pz, V.pzs, T.toV, frz1, List.range, List.range.loop, Nat.reduceAdd, Nat.reduceMul, Nat.reduceSub, Nat.reduceEqDiff, Nat.reduceLT, Nat.reduceLeDiff, Nat.reducePow, Nat.reduceDiv, Nat.reduceMod, Int.reduceLT, Int.reduceLE, Int.reduceAdd, Int.reduceMul, Int.reduceSub, Int.reduceNeg, Int.reducePow, Int.reduceEq, ↓reduceIte, ite_true, ite_false, if_true, if_false, ne_eq, reduceCtorEq, Int.reduceBEq, Int.reduceBNe, Nat.reduceBEq, Nat.reduceBNe, implies_true, forall_const, eq_self, IntKind.bits, upd_tmsS, selT_cons, selT_nil, grn, rn_its, e0, e1]
  rintro k S ⟨mv, seen, last, Y, X, d, rfl, hmv, hcl, rfl, hY, hYM, hnd, hXY, hXb, hXl⟩
  have hfmv : mv.filter (fun x => decide (x < 2)) = [] := by
    rw [List.filter_eq_nil_iff]
    intro t ht
    have := hmv t ht
    simp
    omega
  simp (config := { maxSteps := 10000000, implicitDefEqProofs := false }) only [QH, QR, V.noimm, V.noimms, frzZs, frzZ, frzA, frzV, frzVs, frzBox, boxLen, Option.isSome, cond_true, cond_false, aopD, calW, flatV, stepX, amap, stepY, alookup, afind, aupdate, adelete, amlen, arange, ameq, mapOf, akeq, pl, V.mapT, V.mapTs, Option.bind, stepK, runK, guardD, stepE, runD, callD, compact, selB, callK, evS, ofVal, ofVals, scalar, aop, ares, mkRes, V.rn, V.rns, V.cells?, cellsAt, Go.Ai.part, aload, astore, setL, V.atom, abin, aun, intBin, shiftBin, aconv, fieldOf, aindexAddr, aindex, bound?, aslice, aarr, abuild, afill, alen, nilP, nilS, nilF, aeq, eqCells, eqCell, Go.Ai.known, strBin, abuiltin, aappend, abuildSlice, arowsFill, amakeSlice, acopy, minmax, rowsOf, numsT, notStr, isIntD, isByte, V.pz, V.pzs, T.toV, frz1, frz, scalT, scalTs, chunkT, List.range, List.range.loop, Int.reduceTDiv, Int.reduceTMod, Int.reduceFDiv, UInt8.reduceToNat, Nat.reduceAdd, Nat.reduceMul, Nat.reduceSub, Nat.reduceEqDiff, Nat.reduceLT, Nat.reduceLeDiff, Nat.reducePow, Nat.reduceDiv, Nat.reduceMod, Int.reduceLT, Int.reduceLE, Int.reduceAdd, Int.reduceMul, Int.reduceSub, Int.reduceNeg, Int.reduceToNat, Int.reducePow, Int.reduceEq, ↓reduceIte, ite_true, ite_false, if_true, if_false, ne_eq, reduceCtorEq, Int.reduceBEq, Int.reduceBNe, Nat.reduceBEq, Nat.reduceBNe, implies_true, forall_const, eq_self, reduceDIte, IntKind.bits, kPostKF_ret, kPostKF_normal, kPostX_ret, kPostX_normal, bsl, u3, a3, c3, b3, z3, k3, u4, a4, c4, b4, z4, k4, u5, a5, c5, b5, z5, k5, u23, a23, c23, b23, z23, k23, l23, u25, a25, c25, b25, z25, k25, u60, a60, c60, b60, z60, k60, u62, a62, c62, b62, z62, k62, u68, a68, c68, b68, z68, k68, l68, u70, a70, c70, b70, z70, k70, l70]
  refine nextK_it rfl rfl (encG_lt hL) hcl (fun e he hn => ?_) (fun hall => ?_)
  · obtain ⟨x, hx, rfl⟩ := encG_mem he
    simp only at hn
    have hfb := encG_born hL.bnd hx
    have hf := findG x.1.v x.1.m X
    have hf0 : X.findIdx? (fun e => isK x.1.v x.1.m e.1) = none := by
      rw [List.findIdx?_eq_none_iff]
      intro e he
      have h1 : e.1 ∈ Y.map (·.1) := hXY ▸ List.mem_map.2 ⟨e, he, rfl⟩
      obtain ⟨y, hy, hye⟩ := List.mem_map.1 h1
      have hne : ¬ isK x.1.v x.1.m e.1 = true := by
        intro hk
        obtain ⟨h2, h3⟩ := isK_eq hk
        have : y = x := map_inj hL.nod (hYM y hy) hx (by simp [keyOf, hye, h2, h3])
        subst this
        exact hn (hY ▸ List.mem_map.2 ⟨y, hy, rfl⟩)
      simpa using hne
    rw [hf0] at hf
    have hkk := gkeq x.1.v x.1.v x.1.m x.1.m
    have hse := encG_app X x.1 d
    (have hwq := trivial; repeat' (first | simp (config := { maxSteps := 10000000, implicitDefEqProofs := false }) only [QH, QR, V.noimm, V.noimms, frzZs, frzZ, frzA, frzV, frzVs, frzBox, boxLen, Option.isSome, cond_true, cond_false, aopD, calW, flatV, stepX, amap, stepY, alookup, afind, aupdate, adelete, amlen, arange, ameq, mapOf, akeq, pl, V.mapT, V.mapTs, Option.bind, stepK, runK, guardD, stepE, runD, callD, compact, selB, callK, evS, ofVal, ofVals, scalar, aop, ares, mkRes, V.rn, V.rns, V.cells?, cellsAt, Go.Ai.part, aload, astore, setL, V.atom, abin, aun, intBin, shiftBin, aconv, fieldOf, aindexAddr, aindex, bound?, aslice, aarr, abuild, afill, alen, nilP, nilS, nilF, aeq, eqCells, eqCell, Go.Ai.known, strBin, abuiltin, aappend, abuildSlice, arowsFill, amakeSlice, acopy, minmax, rowsOf, numsT, notStr, isIntD, isByte, V.pz, V.pzs, T.toV, frz1, frz, scalT, scalTs, chunkT, List.range, List.range.loop, Int.reduceTDiv, Int.reduceTMod, Int.reduceFDiv, UInt8.reduceToNat, Nat.reduceAdd, Nat.reduceMul, Nat.reduceSub, Nat.reduceEqDiff, Nat.reduceLT, Nat.reduceLeDiff, Nat.reducePow, Nat.reduceDiv, Nat.reduceMod, Int.reduceLT, Int.reduceLE, Int.reduceAdd, Int.reduceMul, Int.reduceSub, Int.reduceNeg, Int.reduceToNat, Int.reducePow, Int.reduceEq, ↓reduceIte, ite_true, ite_false, if_true, if_false, ne_eq, reduceCtorEq, Int.reduceBEq, Int.reduceBNe, Nat.reduceBEq, Nat.reduceBNe, implies_true, forall_const, eq_self, reduceDIte, IntKind.bits, kPostKF_ret, kPostKF_normal, kPostX_ret, kPostX_normal, bsl, hwq, u3, a3, c3, b3, z3, k3, u4, a4, c4, b4, z4, k4, u5, a5, c5, b5, z5, k5, u23, a23, c23, b23, z23, k23, l23, u25, a25, c25, b25, z25, k25, u60, a60, c60, b60, z60, k60, u62, a62, c62, b62, z62, k62, u68, a68, c68, b68, z68, k68, l68, u70, a70, c70, b70, z70, k70, l70, grn, gmt, hfb, hf, hkk, hse, List.getLast?_append, List.getLast?_singleton, List.getLast?_nil, aentry, Option.some_or] | (refine awpL_loop 18 ?_; have hwq := trivial) | (refine condK_split ?_ ?_ <;> intro hwq) | (refine guardK_split ?_ ?_ <;> intro hwq) | (refine guardE_split ?_ ?_ <;> intro hwq) | (refine awp_drawW [] (by decide +kernel) ?_; have hwq := trivial) | fail))
    refine ⟨_, _, gmeas hx hn, Weak.cutI 5 [3, 17] ?_ ?_, _, seen ++ [x.2], c, Y ++ [x], X ++ [(x.1, d)], d + 1, rfl, ?_, Nat.le_refl _, rfl, by simp [hY], ?_, ?_, by simp [hXY], ?_, ?_⟩
    · simp (config := { maxSteps := 10000000, implicitDefEqProofs := false }) only [QH, Option.isSome, cond_true, cond_false, Option.bind, selB, V.rn, V.rns, Go.Ai.known, V.pz, V.pzs, T.toV, frz1, List.range, List.range.loop, Nat.reduceAdd, Nat.reduceMul, Nat.reduceSub, Nat.reduceEqDiff, Nat.reduceLT, Nat.reduceLeDiff, Nat.reducePow, Nat.reduceDiv, Nat.reduceMod, Int.reduceLT, Int.reduceLE, Int.reduceAdd, Int.reduceMul, Int.reduceSub, Int.reduceNeg, Int.reducePow, Int.reduceEq, ↓reduceIte, ite_true, ite_false, if_true, if_false, ne_eq, reduceCtorEq, Int.reduceBEq, Int.reduceBNe, Nat.reduceBEq, Nat.reduceBNe, implies_true, forall_const, eq_self, IntKind.bits, upd_tmsS, selT_cons, selT_nil]
    · simp (config := { maxSteps := 10000000, implicitDefEqProofs := false }) only [QH, Option.isSome, cond_true, cond_false, Option.bind, selB, V.rn, V.rns, Go.Ai.known, V.pz, V.pzs, T.toV, frz1, List.range, List.range.loop, Nat.reduceAdd, Nat.reduceMul, Nat.reduceSub, Nat.reduceEqDiff, Nat.reduceLT, Nat.reduceLeDiff, Nat.reducePow, Nat.reduceDiv, Nat.reduceMod, Int.reduceLT, Int.reduceLE, Int.reduceAdd, Int.reduceMul, Int.reduceSub, Int.reduceNeg, Int.reducePow, Int.reduceEq, ↓reduceIte, ite_true, ite_false, if_true, if_false, ne_eq, reduceCtorEq, Int.reduceBEq, Int.reduceBNe, Nat.reduceBEq, Nat.reduceBNe, implies_true, forall_const, eq_self, IntKind.bits, upd_tmsS, selT_cons, selT_nil, grn, rn_its]
    · intro t ht
      rcases List.mem_append.1 ht with h1 | h1
      · exact hmv t h1
      · have := (List.mem_range'_1.1 h1).1; omega
    · intro e he
      rcases List.mem_append.1 he with h1 | h1
      · exact hYM e h1
      · simp at h1; subst h1; exact hx
    · rw [List.nodup_append]
      refine ⟨hnd, by simp, ?_⟩
      intro a ha b hb
      simp at hb
      subst hb
      exact fun hh => hn (hh ▸ ha)
    · rw [List.map_append, List.nodup_append]
      refine ⟨hXb, by simp, ?_⟩
      intro a ha b hb
      obtain ⟨e, he, rfl⟩ := List.mem_map.1 ha
      simp at hb
      subst hb
      have := hXl e he
      omega
    · intro e he
      rcases List.mem_append.1 he with h1 | h1
      · have := hXl e h1; omega
      · simp at h1; subst h1; simp
  · have hp : Y.Perm M := seen_all hL.bnd (by rw [hY]; exact hnd) hYM (fun e he => by rw [hY]; exact hall _ (by simp only [encG]; exact List.mem_map.2 ⟨e, he, rfl⟩))
    (have hwq := trivial; repeat' (first | simp (config := { maxSteps := 10000000, implicitDefEqProofs := false }) only [QH, QR, V.noimm, V.noimms, frzZs, frzZ, frzA, frzV, frzVs, frzBox, boxLen, Option.isSome, cond_true, cond_false, aopD, calW, flatV, stepX, amap, stepY, alookup, afind, aupdate, adelete, amlen, arange, ameq, mapOf, akeq, pl, V.mapT, V.mapTs, Option.bind, stepK, runK, guardD, stepE, runD, callD, compact, selB, callK, evS, ofVal, ofVals, scalar, aop, ares, mkRes, V.rn, V.rns, V.cells?, cellsAt, Go.Ai.part, aload, astore, setL, V.atom, abin, aun, intBin, shiftBin, aconv, fieldOf, aindexAddr, aindex, bound?, aslice, aarr, abuild, afill, alen, nilP, nilS, nilF, aeq, eqCells, eqCell, Go.Ai.known, strBin, abuiltin, aappend, abuildSlice, arowsFill, amakeSlice, acopy, minmax, rowsOf, numsT, notStr, isIntD, isByte, V.pz, V.pzs, T.toV, frz1, frz, scalT, scalTs, chunkT, List.range, List.range.loop, Int.reduceTDiv, Int.reduceTMod, Int.reduceFDiv, UInt8.reduceToNat, Nat.reduceAdd, Nat.reduceMul, Nat.reduceSub, Nat.reduceEqDiff, Nat.reduceLT, Nat.reduceLeDiff, Nat.reducePow, Nat.reduceDiv, Nat.reduceMod, Int.reduceLT, Int.reduceLE, Int.reduceAdd, Int.reduceMul, Int.reduceSub, Int.reduceNeg, Int.reduceToNat, Int.reducePow, Int.reduceEq, ↓reduceIte, ite_true, ite_false, if_true, if_false, ne_eq, reduceCtorEq, Int.reduceBEq, Int.reduceBNe, Nat.reduceBEq, Nat.reduceBNe, implies_true, forall_const, eq_self, reduceDIte, IntKind.bits, kPostKF_ret, kPostKF_normal, kPostX_ret, kPostX_normal, bsl, hwq, u3, a3, c3, b3, z3, k3, u4, a4, c4, b4, z4, k4, u5, a5, c5, b5, z5, k5, u23, a23, c23, b23, z23, k23, l23, u25, a25, c25, b25, z25, k25, u60, a60, c60, b60, z60, k60, u62, a62, c62, b62, z62, k62, u68, a68, c68, b68, z68, k68, l68, u70, a70, c70, b70, z70, k70, l70, grn, hfmv] | (refine condK_split ?_ ?_ <;> intro hwq) | (refine guardK_split ?_ ?_ <;> intro hwq) | (refine guardE_split ?_ ?_ <;> intro hwq) | (refine awp_drawW [] (by decide +kernel) ?_; have hwq := trivial) | fail))
    refine ⟨(X, d), ⟨?_, h.srt, h.ok, hXb, hXl⟩, ?_⟩
    · simp only [hXY]; exact (hp.map _).trans h.perm
    · simp (config := { maxSteps := 10000000, implicitDefEqProofs := false }) only [QH, QR, V.noimm, V.noimms, frzZs, frzZ, frzA, frzV, frzVs, frzBox, boxLen, Option.isSome, cond_true, cond_false, aopD, calW, flatV, stepX, amap, stepY, alookup, afind, aupdate, adelete, amlen, arange, ameq, mapOf, akeq, pl, V.mapT, V.mapTs, Option.bind, stepK, runK, guardD, stepE, runD, callD, compact, selB, callK, evS, ofVal, ofVals, scalar, aop, ares, mkRes, V.rn, V.rns, V.cells?, cellsAt, Go.Ai.part, aload, astore, setL, V.atom, abin, aun, intBin, shiftBin, aconv, fieldOf, aindexAddr, aindex, bound?, aslice, aarr, abuild, afill, alen, nilP, nilS, nilF, aeq, eqCells, eqCell, Go.Ai.known, strBin, abuiltin, aappend, abuildSlice, arowsFill, amakeSlice, acopy, minmax, rowsOf, numsT, notStr, isIntD, isByte, V.pz, V.pzs, T.toV, frz1, frz, scalT, scalTs, chunkT, List.range, List.range.loop, Int.reduceTDiv, Int.reduceTMod, Int.reduceFDiv, UInt8.reduceToNat, Nat.reduceAdd, Nat.reduceMul, Nat.reduceSub, Nat.reduceEqDiff, Nat.reduceLT, Nat.reduceLeDiff, Nat.reducePow, Nat.reduceDiv, Nat.reduceMod, Int.reduceLT, Int.reduceLE, Int.reduceAdd, Int.reduceMul, Int.reduceSub, Int.reduceNeg, Int.reduceToNat, Int.reducePow, Int.reduceEq, ↓reduceIte, ite_true, ite_false, if_true, if_false, ne_eq, reduceCtorEq, Int.reduceBEq, Int.reduceBNe, Nat.reduceBEq, Nat.reduceBNe, implies_true, forall_const, eq_self, reduceDIte, IntKind.bits, kPostKF_ret, kPostKF_normal, kPostX_ret, kPostX_normal, bsl, u3, a3, c3, b3, z3, k3, u4, a4, c4, b4, z4, k4, u5, a5, c5, b5, z5, k5, u23, a23, c23, b23, z23, k23, l23, u25, a25, c25, b25, z25, k25, u60, a60, c60, b60, z60, k60, u62, a62, c62, b62, z62, k62, u68, a68, c68, b68, z68, k68, l68, u70, a70, c70, b70, z70, k70, l70, grn, hfmv]
end Go.Ai
