/- Contracts of functions of the loaded program: called with data in the ranges that each names, it returns this value and writes to no old memory. -/
import Derived.Test.YtpadhpkplpiceaaCfdG
set_option linter.unusedVariables false
set_option linter.unusedSimpArgs false
set_option maxHeartbeats 4000000
set_option maxRecDepth 100000
namespace Go.Ai
open Go.Proofs

theorem hmtA (j q : Int) (L : List En) (f : Nat → Nat) (c : Nat) : Blk.mapT f (.mp (enc j q L) c) = .mp (enc j q L) c := mapT_mp (enc_flat j q L) f c
theorem hrnA (j q : Int) (L : List En) (f : Nat → Option Nat) (c : Nat) : Blk.rn f (.mp (enc j q L) c) = some (.mp (enc j q L) c) := rn_mp (enc_flat j q L) f c
theorem hpzA (j q : Int) (L : List En) (f : List Nat) (c : Nat) : Blk.pz f (.mp (enc j q L) c) = .mp (enc j q L) c := pz_mp (enc_flat j q L) f c
theorem good0 (c : Nat) : Good [] c := ⟨by simp, by simp, by simp, by simp⟩
abbrev La1 : List En := [⟨1, 1, 0⟩]
abbrev La2 : List En := [⟨1, 1, 0⟩, ⟨2, 2, 1⟩]
abbrev La3 : List En := [⟨2, 2, 1⟩, ⟨3, 3, 2⟩]
theorem bc9 : AC Try.prog 9 [] [] (eqR (vB true)) := by
  have g1 : Good La1 1 := ⟨by simp [inR], by simp, by simp, by simp⟩
  have g2 : Good La2 2 := ⟨by simp [inR], by simp, by simp, by simp⟩
  have g3 : Good La3 3 := ⟨by simp [inR], by simp, by simp, by simp⟩
  have n8 := bc8 2 5 (by omega) (by omega) 5 9
  have m1 := bc10b 2 5 5 9 1 1 [] 0 (good0 0) (by simp [inR]) (by simp [inR]) (by omega) (by omega) (by simp) (by simp)
  have m2 := bc10b 2 5 5 9 2 2 La1 1 g1 (by simp [inR]) (by simp [inR]) (by omega) (by omega) (by decide) (by simp)
  have m3 := bc10c 2 5 5 9 3 3 La2 2 g2 (by simp [inR]) (by simp [inR]) (by omega) (by omega) (by decide) (by simp) 0 ⟨1, 1, 0⟩ rfl (by intro e he hn; simp at he; rcases he with rfl | rfl <;> simp at hn ⊢)
  have f1 := bc13 2 5 5 9 1 La3 3 g3 (by simp [inR])
  have f3 := bc13 2 5 5 9 3 La3 3 g3 (by simp [inR])
  rw [show has La3 1 = false by decide] at f1
  rw [show has La3 3 = true by decide] at f3
  have ln := bc12 2 5 5 9 La3 3
  have s1 := bc11 1 (by omega) (by omega)
  have s2 := bc11 2 (by omega) (by omega)
  have s3 := bc11 3 (by omega) (by omega)
  have s9 := bc11 9 (by omega) (by omega)
  simp only [Bool.false_eq_true, if_false, if_true] at f1 f3
  simp only [List.nil_append, List.cons_append, List.eraseIdx_cons_zero] at m1 m2 m3
  refine AC_plain orders Try.func9 rfl (by kernel_rfl) (by kernel_rfl) Try.ntmps9 (by simp) ?_
  unfold Try.f9
  (have hwq := trivial; repeat' (first | simp (config := { maxSteps := 10000000, implicitDefEqProofs := false }) only [Q0, V.noimm, V.noimms, frzZs, frzZ, frzA, frzV, frzVs, frzBox, boxLen, Q1, Option.isSome, Q2, Q3, Q4, Q5, Q6, Q7, cond_true, cond_false, Q8, Q9, aopD, calW, flatV, Q10, Q11, stepX, amap, stepY, alookup, afind, aupdate, adelete, amlen, arange, ameq, mapOf, akeq, Q12, Q13, pl, Q14, Q15, Q16, Q17, V.mapT, V.mapTs, Q18, Option.bind, Q19, Q20, Q21, Q22, Q23, Q24, Q25, Q26, Q27, Q28, Q29, Q30, stepK, runK, Q31, Q32, Q33, Q34, Q35, Q36, guardD, Q37, Q38, Q39, Q40, Q41, stepE, runD, callD, Q42, Q43, Q44, Q45, Q46, Q47, Q48, Q49, Q50, Q51, Q52, Q53, Q54, Q55, Q56, Q57, Q58, Q59, Q60, Q61, Q62, Q63, Q64, Q65, Q66, Q67, Q68, Q69, Q70, Q71, Q72, Q73, compact, selB, Q74, Q75, Q76, Q77, callK, evS, Q78, Q79, ofVal, ofVals, scalar, aop, ares, mkRes, V.rn, V.rns, Q80, V.cells?, cellsAt, Go.Ai.part, aload, astore, setL, V.atom, abin, aun, intBin, shiftBin, aconv, fieldOf, aindexAddr, aindex, bound?, aslice, aarr, abuild, afill, alen, nilP, nilS, nilF, aeq, eqCells, eqCell, Go.Ai.known, strBin, abuiltin, aappend, abuildSlice, arowsFill, amakeSlice, acopy, minmax, rowsOf, numsT, notStr, isIntD, isByte, Q81, Q82, Q83, Q84, Q85, V.pz, V.pzs, T.toV, frz1, frz, scalT, scalTs, chunkT, Q86, Q87, Q88, Q89, Q90, Q91, Q92, Q93, Q94, List.range, List.range.loop, Q95, Q96, Q97, Q98, Q99, Q100, Q101, Q102, Q103, Q104, Q105, Q106, Q107, Q108, Q109, Q110, Q111, Q112, Q113, Q114, Q115, Q116, Q117, Q118, Q119, Q120, Q121, Q122, Q123, Q124, Q125, Q126, Q127, Q128, Q129, Q130, Int.reduceTDiv, Int.reduceTMod, Int.reduceFDiv, UInt8.reduceToNat, Nat.reduceAdd, Nat.reduceMul, Nat.reduceSub, Nat.reduceEqDiff, Nat.reduceLT, Nat.reduceLeDiff, Nat.reducePow, Nat.reduceDiv, Nat.reduceMod, Q131, Q132, Q133, Q134, Q135, Q136, Int.reduceLT, Int.reduceLE, Int.reduceAdd, Int.reduceMul, Int.reduceSub, Int.reduceNeg, Int.reduceToNat, Int.reducePow, Int.reduceEq, Q137, Q138, Q139, Q140, Q141, Q142, Q143, Q144, Q145, Q146, Q147, Q148, Q149, Q150, ↓reduceIte, ite_true, ite_false, if_true, if_false, Q151, Q152, Q153, Q154, Q155, Q156, Q157, Q158, Q159, Q160, Q161, ne_eq, Q162, Q163, Q164, Q165, Q166, Q167, Q168, Q169, Q170, Q171, Q172, Q173, Q174, Q175, reduceCtorEq, Q176, Q177, Int.reduceBEq, Int.reduceBNe, Nat.reduceBEq, Nat.reduceBNe, implies_true, forall_const, Q178, Q179, eq_self, Q180, reduceDIte, Q181, Q182, Q183, Q184, IntKind.bits, Q185, Q186, Q187, Q188, Q189, kPostKF_ret, kPostKF_normal, kPostX_ret, kPostX_normal, bsl, hwq, u3, a3, c3, b3, z3, k3, u4, a4, c4, b4, z4, k4, u5, a5, c5, b5, z5, k5, u23, a23, c23, b23, z23, k23, u24, a24, c24, b24, z24, k24, u31, a31, c31, b31, z31, k31, l31, u42, a42, c42, b42, z42, k42, l42, u58, a58, c58, b58, z58, k58, u60, a60, c60, b60, z60, k60, u69, a69, c69, b69, z69, k69, l69, hmtA, hrnA] | (refine awpL_loop 18 ?_; have hwq := trivial) | (refine condK_split ?_ ?_ <;> intro hwq) | (refine guardK_split ?_ ?_ <;> intro hwq) | (refine guardE_split ?_ ?_ <;> intro hwq) | (refine awp_drawI 11 [] (List.range 16) [0, 1, 3, 7, 15, 31, 63, 63, 255, 511, 1023, 2047, 4095, 8191, 16383, 32767] (by decide +kernel) ?_; have hwq := trivial) | (refine awp_drawW [] (by decide +kernel) ?_; have hwq := trivial) | (refine call_at [] n8 (by simp) (by simp) rfl rfl rfl (V.les_refl _) ?_; have hwq := trivial) | (refine call_plain s1 rfl rfl ?_; have hwq := trivial) | (refine call_plain s2 rfl rfl ?_; have hwq := trivial) | (refine call_plain s3 rfl rfl ?_; have hwq := trivial) | (refine call_plain s9 rfl rfl ?_; have hwq := trivial) | (refine draw_plain s9 rfl (fun _ => rfl) ?_; have hwq := trivial) | (refine call_at [0, 1] m1 (by simp) (by decide) rfl rfl (by simp [hmtA, mapT_box, V.mapTs, V.mapT, pl]) (V.les_refl _) ?_; have hwq := trivial) | (refine call_at [0, 1] m2 (by simp) (by decide) rfl rfl (by simp [hmtA, mapT_box, V.mapTs, V.mapT, pl]) (V.les_refl _) ?_; have hwq := trivial) | (refine call_at [0, 1] m3 (by simp) (by decide) rfl rfl (by simp [hmtA, mapT_box, V.mapTs, V.mapT, pl]) (V.les_refl _) ?_; have hwq := trivial) | (refine call_at [0, 1] f1 (by simp) (by decide) rfl rfl (by simp [hmtA, mapT_box, V.mapTs, V.mapT, pl]) (V.les_refl _) ?_; have hwq := trivial) | (refine call_at [0, 1] f3 (by simp) (by decide) rfl rfl (by simp [hmtA, mapT_box, V.mapTs, V.mapT, pl]) (V.les_refl _) ?_; have hwq := trivial) | (refine draw_at [0, 1] ln (by simp) (by decide) rfl (fun n => by simp [hmtA, mapT_box, V.mapTs, V.mapT, pl]) (fun _ => V.les_refl _) (fun _ => rfl) ?_; have hwq := trivial) | fail))
  all_goals trace_state
end Go.Ai
