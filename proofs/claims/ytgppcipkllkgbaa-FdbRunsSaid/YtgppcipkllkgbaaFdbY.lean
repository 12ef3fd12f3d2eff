/- Contracts of functions of the loaded program: called with data in the ranges that each names, it returns this value and writes to no old memory. -/
import Derived.Test.YtgppcipkllkgbaaFdbS
set_option linter.unusedVariables false
set_option linter.unusedSimpArgs false
set_option maxHeartbeats 4000000
set_option maxRecDepth 100000
namespace Go.Ai
open Go.Proofs

theorem perm_nodup {α : Type} : ∀ {A B : List α}, A.Nodup → B.Nodup → (∀ x, x ∈ A ↔ x ∈ B) → A.Perm B
  | [], B, _, _, h => by
    cases B with
    | nil => exact List.Perm.refl _
    | cons b B => exact absurd ((h b).2 (by simp)) (by simp)
  | a :: A, B, ha, hb, h => by
    obtain ⟨j, hj⟩ := List.getElem?_of_mem ((h a).1 (by simp))
    have hp := perm_erase hj
    have hn := hp.nodup_iff.1 hb
    simp only [List.nodup_cons] at ha hn
    refine ((perm_nodup ha.2 hn.2 fun x => ?_).cons a).trans hp.symm
    constructor
    · intro hx
      have h1 := hp.mem_iff.1 ((h x).1 (by simp [hx]))
      rcases List.mem_cons.1 h1 with rfl | h1
      · exact (ha.1 hx).elim
      · exact h1
    · intro hx
      have h1 := (h x).2 (hp.mem_iff.2 (by simp [hx]))
      rcases List.mem_cons.1 h1 with rfl | h1
      · exact (hn.1 hx).elim
      · exact h1
/-- All were seen. -/
theorem seen_all {M X : List Ev} (hb : (M.map (·.2)).Nodup) (hx : (X.map (·.2)).Nodup) (hs : ∀ e ∈ X, e ∈ M) (ha : ∀ e ∈ M, e.2 ∈ X.map (·.2)) : X.Perm M := by
  have nd : ∀ {A : List Ev}, (A.map (·.2)).Nodup → A.Nodup := fun h => (List.pairwise_map.1 h).imp fun hne he => hne (by rw [he])
  refine perm_nodup (nd hx) (nd hb) fun e => ⟨hs e, fun he => ?_⟩
  obtain ⟨x, h1, h2⟩ := List.mem_map.1 (ha e he)
  exact map_inj hb (hs x h1) he h2 ▸ h1

def AlI (P R A : Int) (M : List Ev) (c : Nat) (k : Nat) (S : St) : Prop :=
  ∃ (mv seen : List Nat) (last : Nat) (X : List Ev), S = ⟨tms [(3, .own 3 0 X.length), (12, .ptr 2 0 0)], [.box [vI P, vI R, vI A, .mref 1] false, .mp (encG M) c, .it (some 1) c seen last, .rows 10 ((X.map (·.1)).map entT) false], mv⟩ ∧
    (∀ t ∈ mv, 2 ≤ t) ∧ c ≤ last ∧ k = (M.filter fun e => decide (e.2 ∉ seen)).length ∧ X.map (·.2) = seen ∧ (∀ e ∈ X, e ∈ M) ∧ seen.Nodup
theorem ev_nodup_len {M X : List Ev} (hx : (X.map (·.2)).Nodup) (hs : ∀ e ∈ X, e ∈ M) : X.length ≤ M.length := by
  have nd : X.Nodup := (List.pairwise_map.1 hx).imp fun hne he => hne (by rw [he])
  clear hx
  induction X generalizing M with
  | nil => simp
  | cons x X ih =>
    obtain ⟨j, hj⟩ := List.getElem?_of_mem (hs x (by simp))
    have hp := perm_erase hj
    simp only [List.nodup_cons] at nd
    have := ih (M := M.eraseIdx j) (fun e he => by
      rcases List.mem_cons.1 (hp.mem_iff.1 (hs e (by simp [he]))) with rfl | h
      · exact (nd.1 he).elim
      · exact h) nd.2
    have := hp.length_eq
    simp only [List.length_cons] at *
    omega
theorem call_sort {t n : Nat} {σ : List Blk} {X L : List Ent} {K : V → List Blk → List Nat → Prop} (hp : X.Perm L) (hs : Srt L) (hok : ∀ e ∈ L, okM e.m) (hne : X ≠ []) (hl : X.length ≤ 100000) (hn : n = X.length) (hσ : σ[t]? = some (.rows 10 (X.map entT) false)) (hk : K (.tuple []) (σ.set t (.rows 10 (L.map entT) false)) []) :
    AC Try.prog 36 [.own t 0 n, .clo (.func 37) [] []] σ K := by
  subst hn
  exact AC.mono (gs36 hp hs hok hne hl hσ) fun r s m ⟨h1, h2, h3⟩ => by subst h1 h2 h3; exact hk
theorem gq14 (P R A : Int) {M : List Ev} {c : Nat} {L : List Ent} (h : Rep M c L) (hl : L.length ≤ 10000) : AC Try.prog 14 [.ptr 0 0 0] (hG P R A M c) (eqS (slE L) (hG P R A M c)) := by
  have n31 := gq31 P R A M c
  have hL := h.good
  have hln := h.len
  refine AC_heapF orders [0, 1] Try.func14 rfl (by kernel_rfl) (by kernel_rfl) Try.ntmps14 (by simp) ?_
  unfold Try.f14
  (have hwq := trivial; repeat' (first | simp (config := { maxSteps := 10000000, implicitDefEqProofs := false }) only [QH, QR, V.noimm, V.noimms, frzZs, frzZ, frzA, frzV, frzVs, frzBox, boxLen, Option.isSome, cond_true, cond_false, aopD, calW, flatV, stepX, amap, stepY, alookup, afind, aupdate, adelete, amlen, arange, ameq, mapOf, akeq, pl, V.mapT, V.mapTs, Option.bind, stepK, runK, guardD, stepE, runD, callD, compact, selB, callK, evS, ofVal, ofVals, scalar, aop, ares, mkRes, V.rn, V.rns, V.cells?, cellsAt, Go.Ai.part, aload, astore, setL, V.atom, abin, aun, intBin, shiftBin, aconv, fieldOf, aindexAddr, aindex, bound?, aslice, aarr, abuild, afill, alen, nilP, nilS, nilF, aeq, eqCells, eqCell, Go.Ai.known, strBin, abuiltin, aappend, abuildSlice, arowsFill, amakeSlice, acopy, minmax, rowsOf, numsT, notStr, isIntD, isByte, V.pz, V.pzs, T.toV, frz1, frz, scalT, scalTs, chunkT, List.range, List.range.loop, Int.reduceTDiv, Int.reduceTMod, Int.reduceFDiv, UInt8.reduceToNat, Nat.reduceAdd, Nat.reduceMul, Nat.reduceSub, Nat.reduceEqDiff, Nat.reduceLT, Nat.reduceLeDiff, Nat.reducePow, Nat.reduceDiv, Nat.reduceMod, Int.reduceLT, Int.reduceLE, Int.reduceAdd, Int.reduceMul, Int.reduceSub, Int.reduceNeg, Int.reduceToNat, Int.reducePow, Int.reduceEq, ↓reduceIte, ite_true, ite_false, if_true, if_false, ne_eq, reduceCtorEq, Int.reduceBEq, Int.reduceBNe, Nat.reduceBEq, Nat.reduceBNe, implies_true, forall_const, eq_self, reduceDIte, IntKind.bits, kPostKF_ret, kPostKF_normal, kPostX_ret, kPostX_normal, bsl, hwq, u3, a3, c3, b3, z3, k3, u4, a4, c4, b4, z4, k4, u5, a5, c5, b5, z5, k5, u23, a23, c23, b23, z23, k23, l23, u25, a25, c25, b25, z25, k25, u38, a38, c38, b38, z38, k38, u42, a42, c42, b42, z42, k42, l42, u60, a60, c60, b60, z60, k60, u62, a62, c62, b62, z62, k62, u68, a68, c68, b68, z68, k68, l68, u70, a70, c70, b70, z70, k70, l70, u76, grn, gmt] | (refine condK_split ?_ ?_ <;> intro hwq) | (refine guardK_split ?_ ?_ <;> intro hwq) | (refine guardE_split ?_ ?_ <;> intro hwq) | (refine awp_drawW [] (by decide +kernel) ?_; have hwq := trivial) | (refine call_at [0, 1] n31 (by simp) (by decide) rfl rfl (by simp [gmt, mapT_box, V.mapTs, V.mapT, pl]) (V.les_refl _) ?_; have hwq := trivial) | fail))
  refine awp_loopK (AlI P R A M c) (M.filter fun e => decide (e.2 ∉ ([] : List Nat))).length _ (Weak.trans (Weak.virt 3 10 (.inl (by rfl))) (Weak.cutI 4 [3, 12] ?_ ?_)) ⟨_, [], c, [], rfl, by simp, Nat.le_refl _, rfl, rfl, by simp, by simp⟩ ?_
  · simp (config := { maxSteps := 10000000, implicitDefEqProofs := false }) only [QH, Option.isSome, cond_true, cond_false, Option.bind, selB, V.rn, V.rns, Go.Ai.known, V.pz, V.pzs, T.toV, frz1, List.range, List.range.loop, Nat.reduceAdd, Nat.reduceMul, Nat.reduceSub, Nat.reduceEqDiff, Nat.reduceLT, Nat.reduceLeDiff, Nat.reducePow, Nat.reduceDiv, Nat.reduceMod, Int.reduceLT, Int.reduceLE, Int.reduceAdd, Int.reduceMul, Int.reduceSub, Int.reduceNeg, Int.reducePow, Int.reduceEq, ↓reduceIte, ite_true, ite_false, if_true, if_false, ne_eq, reduceCtorEq, Int.reduceBEq, Int.reduceBNe, Nat.reduceBEq, Nat.reduceBNe, implies_true, forall_const, eq_self, IntKind.bits, upd_tmsS, selT_cons, selT_nil]
  · simp (config := { maxSteps := 10000000, implicitDefEqProofs := false }) only [QH, Option.isSome, cond_true, cond_false, Option.bind, selB, V.rn, V.rns, Go.Ai.known, V.pz, V.pzs, T.toV, frz1, List.range, List.range.loop, Nat.reduceAdd, Nat.reduceMul, Nat.reduceSub, Nat.reduceEqDiff, Nat.reduceLT, Nat.reduceLeDiff, Nat.reducePow, Nat.reduceDiv, Nat.reduceMod, Int.reduceLT, Int.reduceLE, Int.reduceAdd, Int.reduceMul, Int.reduceSub, Int.reduceNeg, Int.reducePow, Int.reduceEq, ↓reduceIte, ite_true, ite_false, if_true, if_false, ne_eq, reduceCtorEq, Int.reduceBEq, Int.reduceBNe, Nat.reduceBEq, Nat.reduceBNe, implies_true, forall_const, eq_self, IntKind.bits, upd_tmsS, selT_cons, selT_nil, grn, rn_its]
  rintro k S ⟨mv, seen, last, X, rfl, hmv, hcl, rfl, hX, hXM, hnd⟩
  have hfmv : mv.filter (fun x => decide (x < 2)) = [] := by
    rw [List.filter_eq_nil_iff]
    intro t ht
    have := hmv t ht
    simp
    omega
  have hXl : X.length ≤ 10000 := by
    have := ev_nodup_len (M := M) (X := X) (by rw [hX]; exact hnd) hXM
    omega
  simp (config := { maxSteps := 10000000, implicitDefEqProofs := false }) only [QH, QR, V.noimm, V.noimms, frzZs, frzZ, frzA, frzV, frzVs, frzBox, boxLen, Option.isSome, cond_true, cond_false, aopD, calW, flatV, stepX, amap, stepY, alookup, afind, aupdate, adelete, amlen, arange, ameq, mapOf, akeq, pl, V.mapT, V.mapTs, Option.bind, stepK, runK, guardD, stepE, runD, callD, compact, selB, callK, evS, ofVal, ofVals, scalar, aop, ares, mkRes, V.rn, V.rns, V.cells?, cellsAt, Go.Ai.part, aload, astore, setL, V.atom, abin, aun, intBin, shiftBin, aconv, fieldOf, aindexAddr, aindex, bound?, aslice, aarr, abuild, afill, alen, nilP, nilS, nilF, aeq, eqCells, eqCell, Go.Ai.known, strBin, abuiltin, aappend, abuildSlice, arowsFill, amakeSlice, acopy, minmax, rowsOf, numsT, notStr, isIntD, isByte, V.pz, V.pzs, T.toV, frz1, frz, scalT, scalTs, chunkT, List.range, List.range.loop, Int.reduceTDiv, Int.reduceTMod, Int.reduceFDiv, UInt8.reduceToNat, Nat.reduceAdd, Nat.reduceMul, Nat.reduceSub, Nat.reduceEqDiff, Nat.reduceLT, Nat.reduceLeDiff, Nat.reducePow, Nat.reduceDiv, Nat.reduceMod, Int.reduceLT, Int.reduceLE, Int.reduceAdd, Int.reduceMul, Int.reduceSub, Int.reduceNeg, Int.reduceToNat, Int.reducePow, Int.reduceEq, ↓reduceIte, ite_true, ite_false, if_true, if_false, ne_eq, reduceCtorEq, Int.reduceBEq, Int.reduceBNe, Nat.reduceBEq, Nat.reduceBNe, implies_true, forall_const, eq_self, reduceDIte, IntKind.bits, kPostKF_ret, kPostKF_normal, kPostX_ret, kPostX_normal, bsl, u3, a3, c3, b3, z3, k3, u4, a4, c4, b4, z4, k4, u5, a5, c5, b5, z5, k5, u23, a23, c23, b23, z23, k23, l23, u25, a25, c25, b25, z25, k25, u38, a38, c38, b38, z38, k38, u42, a42, c42, b42, z42, k42, l42, u60, a60, c60, b60, z60, k60, u62, a62, c62, b62, z62, k62, u68, a68, c68, b68, z68, k68, l68, u70, a70, c70, b70, z70, k70, l70, u76]
  refine nextK_it rfl rfl (encG_lt hL) hcl (fun e he hn => ?_) (fun hall => ?_)
  · obtain ⟨x, hx, rfl⟩ := encG_mem he
    simp only at hn
    have hfb := encG_born hL.bnd hx
    have hroom : (X.length + 1) * 40 ≤ 140737488355328 := by omega
    (have hwq := trivial; repeat' (first | simp (config := { maxSteps := 10000000, implicitDefEqProofs := false }) only [QH, QR, V.noimm, V.noimms, frzZs, frzZ, frzA, frzV, frzVs, frzBox, boxLen, Option.isSome, cond_true, cond_false, aopD, calW, flatV, stepX, amap, stepY, alookup, afind, aupdate, adelete, amlen, arange, ameq, mapOf, akeq, pl, V.mapT, V.mapTs, Option.bind, stepK, runK, guardD, stepE, runD, callD, compact, selB, callK, evS, ofVal, ofVals, scalar, aop, ares, mkRes, V.rn, V.rns, V.cells?, cellsAt, Go.Ai.part, aload, astore, setL, V.atom, abin, aun, intBin, shiftBin, aconv, fieldOf, aindexAddr, aindex, bound?, aslice, aarr, abuild, afill, alen, nilP, nilS, nilF, aeq, eqCells, eqCell, Go.Ai.known, strBin, abuiltin, aappend, abuildSlice, arowsFill, amakeSlice, acopy, minmax, rowsOf, numsT, notStr, isIntD, isByte, V.pz, V.pzs, T.toV, frz1, frz, scalT, scalTs, chunkT, List.range, List.range.loop, Int.reduceTDiv, Int.reduceTMod, Int.reduceFDiv, UInt8.reduceToNat, Nat.reduceAdd, Nat.reduceMul, Nat.reduceSub, Nat.reduceEqDiff, Nat.reduceLT, Nat.reduceLeDiff, Nat.reducePow, Nat.reduceDiv, Nat.reduceMod, Int.reduceLT, Int.reduceLE, Int.reduceAdd, Int.reduceMul, Int.reduceSub, Int.reduceNeg, Int.reduceToNat, Int.reducePow, Int.reduceEq, ↓reduceIte, ite_true, ite_false, if_true, if_false, ne_eq, reduceCtorEq, Int.reduceBEq, Int.reduceBNe, Nat.reduceBEq, Nat.reduceBNe, implies_true, forall_const, eq_self, reduceDIte, IntKind.bits, kPostKF_ret, kPostKF_normal, kPostX_ret, kPostX_normal, bsl, hwq, u3, a3, c3, b3, z3, k3, u4, a4, c4, b4, z4, k4, u5, a5, c5, b5, z5, k5, u23, a23, c23, b23, z23, k23, l23, u25, a25, c25, b25, z25, k25, u38, a38, c38, b38, z38, k38, u42, a42, c42, b42, z42, k42, l42, u60, a60, c60, b60, z60, k60, u62, a62, c62, b62, z62, k62, u68, a68, c68, b68, z68, k68, l68, u70, a70, c70, b70, z70, k70, l70, u76, List.length_map, List.getElem?_map, Int.natCast_nonneg, List.length_append, List.map_append, grn, gmt, gpz, hfb, hroom, List.getLast?_append, List.getLast?_singleton, List.getLast?_nil, aentry, Option.some_or] | (refine awpL_loop 18 ?_; have hwq := trivial) | (refine condK_split ?_ ?_ <;> intro hwq) | (refine guardK_split ?_ ?_ <;> intro hwq) | (refine guardE_split ?_ ?_ <;> intro hwq) | (refine awp_drawW [] (by decide +kernel) ?_; have hwq := trivial) | fail))
    refine ⟨_, _, gmeas hx hn, Weak.cutI 4 [3, 12] ?_ ?_, _, seen ++ [x.2], c, X ++ [x], rfl, ?_, Nat.le_refl _, rfl, by simp [hX], ?_, ?_⟩
    · simp (config := { maxSteps := 10000000, implicitDefEqProofs := false }) only [QH, Option.isSome, cond_true, cond_false, Option.bind, selB, V.rn, V.rns, Go.Ai.known, V.pz, V.pzs, T.toV, frz1, List.range, List.range.loop, Nat.reduceAdd, Nat.reduceMul, Nat.reduceSub, Nat.reduceEqDiff, Nat.reduceLT, Nat.reduceLeDiff, Nat.reducePow, Nat.reduceDiv, Nat.reduceMod, Int.reduceLT, Int.reduceLE, Int.reduceAdd, Int.reduceMul, Int.reduceSub, Int.reduceNeg, Int.reducePow, Int.reduceEq, ↓reduceIte, ite_true, ite_false, if_true, if_false, ne_eq, reduceCtorEq, Int.reduceBEq, Int.reduceBNe, Nat.reduceBEq, Nat.reduceBNe, implies_true, forall_const, eq_self, IntKind.bits, upd_tmsS, selT_cons, selT_nil, List.length_map, List.getElem?_map, Int.natCast_nonneg, List.length_append, List.map_append]
    · simp (config := { maxSteps := 10000000, implicitDefEqProofs := false }) only [QH, Option.isSome, cond_true, cond_false, Option.bind, selB, V.rn, V.rns, Go.Ai.known, V.pz, V.pzs, T.toV, frz1, List.range, List.range.loop, Nat.reduceAdd, Nat.reduceMul, Nat.reduceSub, Nat.reduceEqDiff, Nat.reduceLT, Nat.reduceLeDiff, Nat.reducePow, Nat.reduceDiv, Nat.reduceMod, Int.reduceLT, Int.reduceLE, Int.reduceAdd, Int.reduceMul, Int.reduceSub, Int.reduceNeg, Int.reducePow, Int.reduceEq, ↓reduceIte, ite_true, ite_false, if_true, if_false, ne_eq, reduceCtorEq, Int.reduceBEq, Int.reduceBNe, Nat.reduceBEq, Nat.reduceBNe, implies_true, forall_const, eq_self, IntKind.bits, upd_tmsS, selT_cons, selT_nil, List.length_map, List.getElem?_map, Int.natCast_nonneg, List.length_append, List.map_append, grn, gpz, rn_its]
    · intro t ht
      rcases List.mem_append.1 ht with h1 | h1
      · rcases List.mem_append.1 h1 with h1 | h1
        · exact hmv t h1
        · simp at h1; omega
      · have := (List.mem_range'_1.1 h1).1; omega
    · intro e he
      rcases List.mem_append.1 he with h1 | h1
      · exact hXM e h1
      · simp at h1; subst h1; exact hx
    · rw [List.nodup_append]
      refine ⟨hnd, by simp, ?_⟩
      intro a ha b hb
      simp at hb
      subst hb
      exact fun hh => hn (hh ▸ ha)
  · have hp : X.Perm M := seen_all hL.bnd (by rw [hX]; exact hnd) hXM (fun e he => by rw [hX]; exact hall _ (by simp only [encG]; exact List.mem_map.2 ⟨e, he, rfl⟩))
    have hpL : (X.map (·.1)).Perm L := (hp.map _).trans h.perm
    have hll : X.length = L.length := by rw [hp.length_eq, hln]
    have e1 : (L.map entT).take L.length = L.map entT := List.take_of_length_le (by simp)
    rcases Nat.eq_zero_or_pos X.length with h0 | h0
    · obtain rfl : X = [] := List.eq_nil_of_length_eq_zero h0
      obtain rfl : L = [] := List.eq_nil_of_length_eq_zero (by simpa using hll.symm)
      (have hwq := trivial; repeat' (first | simp (config := { maxSteps := 10000000, implicitDefEqProofs := false }) only [QH, QR, V.noimm, V.noimms, frzZs, frzZ, frzA, frzV, frzVs, frzBox, boxLen, Option.isSome, cond_true, cond_false, aopD, calW, flatV, stepX, amap, stepY, alookup, afind, aupdate, adelete, amlen, arange, ameq, mapOf, akeq, pl, V.mapT, V.mapTs, Option.bind, stepK, runK, guardD, stepE, runD, callD, compact, selB, callK, evS, ofVal, ofVals, scalar, aop, ares, mkRes, V.rn, V.rns, V.cells?, cellsAt, Go.Ai.part, aload, astore, setL, V.atom, abin, aun, intBin, shiftBin, aconv, fieldOf, aindexAddr, aindex, bound?, aslice, aarr, abuild, afill, alen, nilP, nilS, nilF, aeq, eqCells, eqCell, Go.Ai.known, strBin, abuiltin, aappend, abuildSlice, arowsFill, amakeSlice, acopy, minmax, rowsOf, numsT, notStr, isIntD, isByte, V.pz, V.pzs, T.toV, frz1, frz, scalT, scalTs, chunkT, List.range, List.range.loop, Int.reduceTDiv, Int.reduceTMod, Int.reduceFDiv, UInt8.reduceToNat, Nat.reduceAdd, Nat.reduceMul, Nat.reduceSub, Nat.reduceEqDiff, Nat.reduceLT, Nat.reduceLeDiff, Nat.reducePow, Nat.reduceDiv, Nat.reduceMod, Int.reduceLT, Int.reduceLE, Int.reduceAdd, Int.reduceMul, Int.reduceSub, Int.reduceNeg, Int.reduceToNat, Int.reducePow, Int.reduceEq, ↓reduceIte, ite_true, ite_false, if_true, if_false, ne_eq, reduceCtorEq, Int.reduceBEq, Int.reduceBNe, Nat.reduceBEq, Nat.reduceBNe, implies_true, forall_const, eq_self, reduceDIte, IntKind.bits, kPostKF_ret, kPostKF_normal, kPostX_ret, kPostX_normal, bsl, hwq, u3, a3, c3, b3, z3, k3, u4, a4, c4, b4, z4, k4, u5, a5, c5, b5, z5, k5, u23, a23, c23, b23, z23, k23, l23, u25, a25, c25, b25, z25, k25, u38, a38, c38, b38, z38, k38, u42, a42, c42, b42, z42, k42, l42, u60, a60, c60, b60, z60, k60, u62, a62, c62, b62, z62, k62, u68, a68, c68, b68, z68, k68, l68, u70, a70, c70, b70, z70, k70, l70, u76, List.length_map, List.getElem?_map, Int.natCast_nonneg, List.length_append, List.map_append, grn, hfmv] | (refine awpL_loop 18 ?_; have hwq := trivial) | (refine condK_split ?_ ?_ <;> intro hwq) | (refine guardK_split ?_ ?_ <;> intro hwq) | (refine guardE_split ?_ ?_ <;> intro hwq) | (refine awp_drawW [] (by decide +kernel) ?_; have hwq := trivial) | (refine call_data gs36e rfl (V.les_refl _) rfl ?_; have hwq := trivial) | fail))
      rfl
    · have hne : X.map (·.1) ≠ [] := by intro hh; rw [List.map_eq_nil_iff] at hh; subst hh; simp at h0
      (have hwq := trivial; repeat' (first | simp (config := { maxSteps := 10000000, implicitDefEqProofs := false }) only [QH, QR, V.noimm, V.noimms, frzZs, frzZ, frzA, frzV, frzVs, frzBox, boxLen, Option.isSome, cond_true, cond_false, aopD, calW, flatV, stepX, amap, stepY, alookup, afind, aupdate, adelete, amlen, arange, ameq, mapOf, akeq, pl, V.mapT, V.mapTs, Option.bind, stepK, runK, guardD, stepE, runD, callD, compact, selB, callK, evS, ofVal, ofVals, scalar, aop, ares, mkRes, V.rn, V.rns, V.cells?, cellsAt, Go.Ai.part, aload, astore, setL, V.atom, abin, aun, intBin, shiftBin, aconv, fieldOf, aindexAddr, aindex, bound?, aslice, aarr, abuild, afill, alen, nilP, nilS, nilF, aeq, eqCells, eqCell, Go.Ai.known, strBin, abuiltin, aappend, abuildSlice, arowsFill, amakeSlice, acopy, minmax, rowsOf, numsT, notStr, isIntD, isByte, V.pz, V.pzs, T.toV, frz1, frz, scalT, scalTs, chunkT, List.range, List.range.loop, Int.reduceTDiv, Int.reduceTMod, Int.reduceFDiv, UInt8.reduceToNat, Nat.reduceAdd, Nat.reduceMul, Nat.reduceSub, Nat.reduceEqDiff, Nat.reduceLT, Nat.reduceLeDiff, Nat.reducePow, Nat.reduceDiv, Nat.reduceMod, Int.reduceLT, Int.reduceLE, Int.reduceAdd, Int.reduceMul, Int.reduceSub, Int.reduceNeg, Int.reduceToNat, Int.reducePow, Int.reduceEq, ↓reduceIte, ite_true, ite_false, if_true, if_false, ne_eq, reduceCtorEq, Int.reduceBEq, Int.reduceBNe, Nat.reduceBEq, Nat.reduceBNe, implies_true, forall_const, eq_self, reduceDIte, IntKind.bits, kPostKF_ret, kPostKF_normal, kPostX_ret, kPostX_normal, bsl, hwq, u3, a3, c3, b3, z3, k3, u4, a4, c4, b4, z4, k4, u5, a5, c5, b5, z5, k5, u23, a23, c23, b23, z23, k23, l23, u25, a25, c25, b25, z25, k25, u38, a38, c38, b38, z38, k38, u42, a42, c42, b42, z42, k42, l42, u60, a60, c60, b60, z60, k60, u62, a62, c62, b62, z62, k62, u68, a68, c68, b68, z68, k68, l68, u70, a70, c70, b70, z70, k70, l70, u76, List.length_map, List.getElem?_map, Int.natCast_nonneg, List.length_append, List.map_append, grn, hfmv, hll, e1] | (refine awpL_loop 18 ?_; have hwq := trivial) | (refine condK_split ?_ ?_ <;> intro hwq) | (refine guardK_split ?_ ?_ <;> intro hwq) | (refine guardE_split ?_ ?_ <;> intro hwq) | (refine awp_drawW [] (by decide +kernel) ?_; have hwq := trivial) | (refine call_sort hpL h.srt (fun e he => (h.ok e he).1) hne (by simp; omega) (by simp [hll]) rfl ?_; have hwq := trivial) | fail))
end Go.Ai
