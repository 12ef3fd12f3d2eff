/- Contracts of functions of the loaded program: called with data in the ranges that each names, it returns this value and writes to no old memory. -/
import Derived.Test.YtgppcipkllkgbaaAiT
import Derived.Test.YtgppcipkllkgbaaFdbX
import Derived.Shelf.SlGeneric
import Derived.Ground.SlsfProg
set_option linter.unusedVariables false
set_option linter.unusedSimpArgs false
set_option maxHeartbeats 4000000
set_option maxRecDepth 100000
namespace Go.Proofs
open Go.Shelf Go.RowKit Go.Lib Go.Sort
shelf_lay_g SlLaysF0.n6 Slsf 6 at Try 36 as Try.sortE
end Go.Proofs
namespace Go.Ai
open Go.Proofs

abbrev slE (L : List Ent) : V := .sl 10 (L.map entT)
abbrev VE := { e : Ent // okM e.m }
instance : Inhabited VE := ⟨⟨⟨0, ⟨0, 0, 0, 0, 0, 0⟩, 0, false, 0⟩, by simp [okM, isB]⟩⟩
abbrev encE (x : VE) : List Value := [.int .i64 x.1.v, .int .u8 x.1.m.a, .int .u8 x.1.m.b, .int .u8 x.1.m.c, .int .u8 x.1.m.d, .int .u8 x.1.m.e, .int .u8 x.1.m.f, .int .i64 x.1.p, .bool x.1.st, .int .i64 x.1.t]
def cfE (x y : VE) : Int := if befB x.1.v y.1.v x.1.m y.1.m then -1 else 1
theorem ltE_of (x y : VE) : ltOf cfE x y = true ↔ ltE x.1 y.1 := by
  unfold ltOf cfE
  rw [decide_eq_true_iff]
  have h := befB_iff x.1.v y.1.v x.1.m y.1.m
  unfold ltE
  rw [← h]
  cases befB x.1.v y.1.v x.1.m y.1.m <;> simp
theorem ltE_off (x y : VE) : ltOf cfE x y = false ↔ ¬ ltE x.1 y.1 := by
  rw [← ltE_of]; simp
theorem swoE : Go.Sort.SWO (ltOf cfE) where
  irrefl x := by rw [ltE_off]; unfold ltE; omega
  trans x y z h1 h2 := by rw [ltE_of] at *; unfold ltE at *; omega
  ntrans x y z h1 h2 := by rw [ltE_off] at *; unfold ltE at *; omega
theorem toVE : ∀ (L : List Ent), (∀ e ∈ L, okM e.m) → ∃ X : List VE, X.map (·.1) = L
  | [], _ => ⟨[], rfl⟩
  | e :: L, h => by
    obtain ⟨X, hX⟩ := toVE L (fun e he => h e (by simp [he]))
    exact ⟨⟨e, h e (by simp)⟩ :: X, by simp [hX]⟩
/-- The row is sorted. -/
theorem gs36 {t : Nat} {σ : List Blk} {X L : List Ent} (hp : X.Perm L) (hs : Srt L) (hok : ∀ e ∈ L, okM e.m) (hne : X ≠ []) (hl : X.length ≤ 100000) (hσ : σ[t]? = some (.rows 10 (X.map entT) false)) :
    AC Try.prog 36 [.own t 0 X.length, .clo (.func 37) [] []] σ (fun r σ' mv => r = .tuple [] ∧ mv = [] ∧ σ' = σ.set t (.rows 10 (L.map entT) false)) := by
  obtain ⟨Y, rfl⟩ := toVE X (fun e he => hok e (hp.mem_iff.1 he))
  have h := AC_sort (t := t) (σ := σ) (xs := Y) Try.sortE Try.isAgg42 Try.sizeOf42 (enc := encE) (fun _ => rfl) (fun x v hv => by simp [encE] at hv; rcases hv with rfl | rfl | rfl | rfl | rfl | rfl | rfl | rfl | rfl | rfl <;> rfl)
    swoE (g := 37) (by kernel_rfl) (by kernel_rfl) (fun x y => gc37 x.1 y.1 x.2 y.2) (fun h => hne (by simp [h])) (by simp at hl; omega) (by rw [hσ, List.map_map]; rfl)
  rw [List.length_map]
  refine AC.mono (f := 36) h fun r σ' mv ⟨h1, h2, ys, h3, h4, h5⟩ => ⟨h1, h2, ?_⟩
  have hys : ys.map (·.1) = L := by
    refine srt_unique ((h3.map _).trans hp) ?_ hs
    unfold Srt
    rw [List.pairwise_map]
    -- no two have one key
    have hd : ys.Pairwise (fun a b => ltE a.1 b.1 ∨ ltE b.1 a.1) := by
      have hL : (ys.map (·.1)).Pairwise (fun a b => ltE a b ∨ ltE b a) := by
        refine ((h3.map _).trans hp).symm.pairwise (hs.imp fun h => .inl h) (fun h => h.symm)
      rwa [List.pairwise_map] at hL
    refine (h4.and hd).imp fun ⟨h6, h7⟩ => ?_
    rcases h7 with h7 | h7
    · exact h7
    · exact ((ltE_off _ _).1 h6 h7).elim
  rw [h5, ← hys, List.map_map]
  rfl
theorem gs62 : AC Try.prog 62 [.s (.int .u64 0)] [] (eqR (vI 0)) := by
  refine AC_plain orders Try.func62 rfl (by kernel_rfl) (by kernel_rfl) Try.ntmps62 (by simp) ?_
  unfold Try.f62
  (have hwq := trivial; repeat' (first | simp (config := { maxSteps := 10000000, implicitDefEqProofs := false }) only [QH, QR, V.noimm, V.noimms, frzZs, frzZ, frzA, frzV, frzVs, frzBox, boxLen, Option.isSome, cond_true, cond_false, aopD, calW, flatV, stepX, amap, stepY, alookup, afind, aupdate, adelete, amlen, arange, ameq, mapOf, akeq, pl, V.mapT, V.mapTs, Option.bind, stepK, runK, guardD, stepE, runD, callD, compact, selB, callK, evS, ofVal, ofVals, scalar, aop, ares, mkRes, V.rn, V.rns, V.cells?, cellsAt, Go.Ai.part, aload, astore, setL, V.atom, abin, aun, intBin, shiftBin, aconv, fieldOf, aindexAddr, aindex, bound?, aslice, aarr, abuild, afill, alen, nilP, nilS, nilF, aeq, eqCells, eqCell, Go.Ai.known, strBin, abuiltin, aappend, abuildSlice, arowsFill, amakeSlice, acopy, minmax, rowsOf, numsT, notStr, isIntD, isByte, V.pz, V.pzs, T.toV, frz1, frz, scalT, scalTs, chunkT, List.range, List.range.loop, Int.reduceTDiv, Int.reduceTMod, Int.reduceFDiv, UInt8.reduceToNat, Nat.reduceAdd, Nat.reduceMul, Nat.reduceSub, Nat.reduceEqDiff, Nat.reduceLT, Nat.reduceLeDiff, Nat.reducePow, Nat.reduceDiv, Nat.reduceMod, Int.reduceLT, Int.reduceLE, Int.reduceAdd, Int.reduceMul, Int.reduceSub, Int.reduceNeg, Int.reduceToNat, Int.reducePow, Int.reduceEq, ↓reduceIte, ite_true, ite_false, if_true, if_false, ne_eq, reduceCtorEq, Int.reduceBEq, Int.reduceBNe, Nat.reduceBEq, Nat.reduceBNe, implies_true, forall_const, eq_self, reduceDIte, IntKind.bits, kPostKF_ret, kPostKF_normal, kPostX_ret, kPostX_normal, bsl, hwq, u3, a3, c3, b3, z3, k3, u5, a5, c5, b5, z5, k5, u9, a9, c9, b9, z9, k9, u103, a103, c103, b103, z103, k103] | (refine awpL_loop 18 ?_; have hwq := trivial) | (refine condK_split ?_ ?_ <;> intro hwq) | (refine guardK_split ?_ ?_ <;> intro hwq) | (refine guardE_split ?_ ?_ <;> intro hwq) | (refine awp_drawW [] (by decide +kernel) ?_; have hwq := trivial) | fail))
theorem gs47 : AC Try.prog 47 [.s (.int .u64 0)] [] (eqR (vI 0)) := by
  refine AC_plain orders Try.func47 rfl (by kernel_rfl) (by kernel_rfl) Try.ntmps47 (by simp) ?_
  unfold Try.f47
  (have hwq := trivial; repeat' (first | simp (config := { maxSteps := 10000000, implicitDefEqProofs := false }) only [QH, QR, V.noimm, V.noimms, frzZs, frzZ, frzA, frzV, frzVs, frzBox, boxLen, Option.isSome, cond_true, cond_false, aopD, calW, flatV, stepX, amap, stepY, alookup, afind, aupdate, adelete, amlen, arange, ameq, mapOf, akeq, pl, V.mapT, V.mapTs, Option.bind, stepK, runK, guardD, stepE, runD, callD, compact, selB, callK, evS, ofVal, ofVals, scalar, aop, ares, mkRes, V.rn, V.rns, V.cells?, cellsAt, Go.Ai.part, aload, astore, setL, V.atom, abin, aun, intBin, shiftBin, aconv, fieldOf, aindexAddr, aindex, bound?, aslice, aarr, abuild, afill, alen, nilP, nilS, nilF, aeq, eqCells, eqCell, Go.Ai.known, strBin, abuiltin, aappend, abuildSlice, arowsFill, amakeSlice, acopy, minmax, rowsOf, numsT, notStr, isIntD, isByte, V.pz, V.pzs, T.toV, frz1, frz, scalT, scalTs, chunkT, List.range, List.range.loop, Int.reduceTDiv, Int.reduceTMod, Int.reduceFDiv, UInt8.reduceToNat, Nat.reduceAdd, Nat.reduceMul, Nat.reduceSub, Nat.reduceEqDiff, Nat.reduceLT, Nat.reduceLeDiff, Nat.reducePow, Nat.reduceDiv, Nat.reduceMod, Int.reduceLT, Int.reduceLE, Int.reduceAdd, Int.reduceMul, Int.reduceSub, Int.reduceNeg, Int.reduceToNat, Int.reducePow, Int.reduceEq, ↓reduceIte, ite_true, ite_false, if_true, if_false, ne_eq, reduceCtorEq, Int.reduceBEq, Int.reduceBNe, Nat.reduceBEq, Nat.reduceBNe, implies_true, forall_const, eq_self, reduceDIte, IntKind.bits, kPostKF_ret, kPostKF_normal, kPostX_ret, kPostX_normal, bsl, hwq, u3, a3, c3, b3, z3, k3, u85, a85, c85, b85, z85, k85, u101, a101, c101, b101, z101, k101, u103, a103, c103, b103, z103, k103] | (refine awpL_loop 18 ?_; have hwq := trivial) | (refine condK_split ?_ ?_ <;> intro hwq) | (refine guardK_split ?_ ?_ <;> intro hwq) | (refine guardE_split ?_ ?_ <;> intro hwq) | (refine awp_drawW [] (by decide +kernel) ?_; have hwq := trivial) | (refine call_plain gs62 rfl rfl ?_; have hwq := trivial) | fail))
theorem gs53 : AC Try.prog 53 [.sl 10 [], vI 0, vI 0, .clo (.func 37) [] []] [] (eqR (.tuple [])) := by
  refine AC_plain orders Try.func53 rfl (by kernel_rfl) (by kernel_rfl) Try.ntmps53 (by simp) ?_
  unfold Try.f53
  (have hwq := trivial; repeat' (first | simp (config := { maxSteps := 10000000, implicitDefEqProofs := false }) only [QH, QR, V.noimm, V.noimms, frzZs, frzZ, frzA, frzV, frzVs, frzBox, boxLen, Option.isSome, cond_true, cond_false, aopD, calW, flatV, stepX, amap, stepY, alookup, afind, aupdate, adelete, amlen, arange, ameq, mapOf, akeq, pl, V.mapT, V.mapTs, Option.bind, stepK, runK, guardD, stepE, runD, callD, compact, selB, callK, evS, ofVal, ofVals, scalar, aop, ares, mkRes, V.rn, V.rns, V.cells?, cellsAt, Go.Ai.part, aload, astore, setL, V.atom, abin, aun, intBin, shiftBin, aconv, fieldOf, aindexAddr, aindex, bound?, aslice, aarr, abuild, afill, alen, nilP, nilS, nilF, aeq, eqCells, eqCell, Go.Ai.known, strBin, abuiltin, aappend, abuildSlice, arowsFill, amakeSlice, acopy, minmax, rowsOf, numsT, notStr, isIntD, isByte, V.pz, V.pzs, T.toV, frz1, frz, scalT, scalTs, chunkT, List.range, List.range.loop, Int.reduceTDiv, Int.reduceTMod, Int.reduceFDiv, UInt8.reduceToNat, Nat.reduceAdd, Nat.reduceMul, Nat.reduceSub, Nat.reduceEqDiff, Nat.reduceLT, Nat.reduceLeDiff, Nat.reducePow, Nat.reduceDiv, Nat.reduceMod, Int.reduceLT, Int.reduceLE, Int.reduceAdd, Int.reduceMul, Int.reduceSub, Int.reduceNeg, Int.reduceToNat, Int.reducePow, Int.reduceEq, ↓reduceIte, ite_true, ite_false, if_true, if_false, ne_eq, reduceCtorEq, Int.reduceBEq, Int.reduceBNe, Nat.reduceBEq, Nat.reduceBNe, implies_true, forall_const, eq_self, reduceDIte, IntKind.bits, kPostKF_ret, kPostKF_normal, kPostX_ret, kPostX_normal, bsl, hwq, u3, a3, c3, b3, z3, k3, u4, a4, c4, b4, z4, k4, u5, a5, c5, b5, z5, k5, u23, a23, c23, b23, z23, k23, l23, u38, a38, c38, b38, z38, k38, u42, a42, c42, b42, z42, k42, l42, u76] | (refine awpL_loop 18 ?_; have hwq := trivial) | (refine condK_split ?_ ?_ <;> intro hwq) | (refine guardK_split ?_ ?_ <;> intro hwq) | (refine guardE_split ?_ ?_ <;> intro hwq) | (refine awp_drawI 4 [] (List.range 17) [0, 0, 3, 7, 15, 15, 15, 111, 239, 15, 15, 1039, 3599, 7695, 16383, 32767, 65535] (by decide +kernel) ?_; have hwq := trivial) | (refine awp_drawI 6 [] (List.range 18) [0, 0, 0, 0, 8, 0, 0, 64, 224, 480, 0, 0, 3072, 7168, 16355, 32739, 65535, 131071] (by decide +kernel) ?_; have hwq := trivial) | (refine awp_drawW [] (by decide +kernel) ?_; have hwq := trivial) | fail))
theorem gs46 (n : Int) : AC Try.prog 46 [.sl 10 [], vI 0, vI 0, vI n, .clo (.func 37) [] []] [] (eqR (.tuple [])) := by
  refine AC_plain orders Try.func46 rfl (by kernel_rfl) (by kernel_rfl) Try.ntmps46 (by simp) ?_
  unfold Try.f46
  (have hwq := trivial; repeat' (first | simp (config := { maxSteps := 10000000, implicitDefEqProofs := false }) only [QH, QR, V.noimm, V.noimms, frzZs, frzZ, frzA, frzV, frzVs, frzBox, boxLen, Option.isSome, cond_true, cond_false, aopD, calW, flatV, stepX, amap, stepY, alookup, afind, aupdate, adelete, amlen, arange, ameq, mapOf, akeq, pl, V.mapT, V.mapTs, Option.bind, stepK, runK, guardD, stepE, runD, callD, compact, selB, callK, evS, ofVal, ofVals, scalar, aop, ares, mkRes, V.rn, V.rns, V.cells?, cellsAt, Go.Ai.part, aload, astore, setL, V.atom, abin, aun, intBin, shiftBin, aconv, fieldOf, aindexAddr, aindex, bound?, aslice, aarr, abuild, afill, alen, nilP, nilS, nilF, aeq, eqCells, eqCell, Go.Ai.known, strBin, abuiltin, aappend, abuildSlice, arowsFill, amakeSlice, acopy, minmax, rowsOf, numsT, notStr, isIntD, isByte, V.pz, V.pzs, T.toV, frz1, frz, scalT, scalTs, chunkT, List.range, List.range.loop, Int.reduceTDiv, Int.reduceTMod, Int.reduceFDiv, UInt8.reduceToNat, Nat.reduceAdd, Nat.reduceMul, Nat.reduceSub, Nat.reduceEqDiff, Nat.reduceLT, Nat.reduceLeDiff, Nat.reducePow, Nat.reduceDiv, Nat.reduceMod, Int.reduceLT, Int.reduceLE, Int.reduceAdd, Int.reduceMul, Int.reduceSub, Int.reduceNeg, Int.reduceToNat, Int.reducePow, Int.reduceEq, ↓reduceIte, ite_true, ite_false, if_true, if_false, ne_eq, reduceCtorEq, Int.reduceBEq, Int.reduceBNe, Nat.reduceBEq, Nat.reduceBNe, implies_true, forall_const, eq_self, reduceDIte, IntKind.bits, kPostKF_ret, kPostKF_normal, kPostX_ret, kPostX_normal, bsl, hwq, u3, a3, c3, b3, z3, k3, u4, a4, c4, b4, z4, k4, u5, a5, c5, b5, z5, k5, u23, a23, c23, b23, z23, k23, l23, u38, a38, c38, b38, z38, k38, u42, a42, c42, b42, z42, k42, l42, u76, u94, a94, c94, b94, z94, k94] | (refine awpL_loop 18 ?_; have hwq := trivial) | (refine condK_split ?_ ?_ <;> intro hwq) | (refine guardK_split ?_ ?_ <;> intro hwq) | (refine guardE_split ?_ ?_ <;> intro hwq) | (refine awp_drawI 17 [] (List.range 17) [0, 1, 3, 7, 7, 7, 39, 119, 247, 7, 7, 1543, 3591, 8191, 16383, 32767, 65535] (by decide +kernel) ?_; have hwq := trivial) | (refine awp_drawW [] (by decide +kernel) ?_; have hwq := trivial) | (refine call_plain gs53 rfl rfl ?_; have hwq := trivial) | fail))
theorem gs36e : AC Try.prog 36 [.sl 10 [], .clo (.func 37) [] []] [] (eqR (.tuple [])) := by
  refine AC_plain orders Try.func36 rfl (by kernel_rfl) (by kernel_rfl) Try.ntmps36 (by simp) ?_
  unfold Try.f36
  (have hwq := trivial; repeat' (first | simp (config := { maxSteps := 10000000, implicitDefEqProofs := false }) only [QH, QR, V.noimm, V.noimms, frzZs, frzZ, frzA, frzV, frzVs, frzBox, boxLen, Option.isSome, cond_true, cond_false, aopD, calW, flatV, stepX, amap, stepY, alookup, afind, aupdate, adelete, amlen, arange, ameq, mapOf, akeq, pl, V.mapT, V.mapTs, Option.bind, stepK, runK, guardD, stepE, runD, callD, compact, selB, callK, evS, ofVal, ofVals, scalar, aop, ares, mkRes, V.rn, V.rns, V.cells?, cellsAt, Go.Ai.part, aload, astore, setL, V.atom, abin, aun, intBin, shiftBin, aconv, fieldOf, aindexAddr, aindex, bound?, aslice, aarr, abuild, afill, alen, nilP, nilS, nilF, aeq, eqCells, eqCell, Go.Ai.known, strBin, abuiltin, aappend, abuildSlice, arowsFill, amakeSlice, acopy, minmax, rowsOf, numsT, notStr, isIntD, isByte, V.pz, V.pzs, T.toV, frz1, frz, scalT, scalTs, chunkT, List.range, List.range.loop, Int.reduceTDiv, Int.reduceTMod, Int.reduceFDiv, UInt8.reduceToNat, Nat.reduceAdd, Nat.reduceMul, Nat.reduceSub, Nat.reduceEqDiff, Nat.reduceLT, Nat.reduceLeDiff, Nat.reducePow, Nat.reduceDiv, Nat.reduceMod, Int.reduceLT, Int.reduceLE, Int.reduceAdd, Int.reduceMul, Int.reduceSub, Int.reduceNeg, Int.reduceToNat, Int.reducePow, Int.reduceEq, ↓reduceIte, ite_true, ite_false, if_true, if_false, ne_eq, reduceCtorEq, Int.reduceBEq, Int.reduceBNe, Nat.reduceBEq, Nat.reduceBNe, implies_true, forall_const, eq_self, reduceDIte, IntKind.bits, kPostKF_ret, kPostKF_normal, kPostX_ret, kPostX_normal, bsl, hwq, u3, a3, c3, b3, z3, k3, u4, a4, c4, b4, z4, k4, u5, a5, c5, b5, z5, k5, u23, a23, c23, b23, z23, k23, l23, u38, a38, c38, b38, z38, k38, u42, a42, c42, b42, z42, k42, l42, u76, u85, a85, c85, b85, z85, k85] | (refine awpL_loop 18 ?_; have hwq := trivial) | (refine condK_split ?_ ?_ <;> intro hwq) | (refine guardK_split ?_ ?_ <;> intro hwq) | (refine guardE_split ?_ ?_ <;> intro hwq) | (refine awp_drawW [] (by decide +kernel) ?_; have hwq := trivial) | (refine call_plain gs47 rfl rfl ?_; have hwq := trivial) | (refine call_plain (gs46 _) rfl rfl ?_; have hwq := trivial) | fail))
end Go.Ai
