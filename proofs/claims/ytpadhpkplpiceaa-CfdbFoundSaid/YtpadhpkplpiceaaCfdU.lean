/- Contracts of functions of the loaded program: called with data in the ranges that each names, it returns this value and writes to no old memory. -/
import Derived.Test.YtpadhpkplpiceaaCfdQ
set_option linter.unusedVariables false
set_option linter.unusedSimpArgs false
set_option maxHeartbeats 4000000
set_option maxRecDepth 100000
namespace Go.Ai
open Go.Proofs

/-! ### A base and the document's row -/
structure Rep (M : List Ev) (c : Nat) (L : List Ent) : Prop where
  perm : (M.map (·.1)).Perm L
  srt : Srt L
  ok : ∀ e ∈ L, okE e
  bnd : (M.map (·.2)).Nodup
  lt : ∀ e ∈ M, e.2 < c
theorem srt_nod {L : List Ent} (h : Srt L) : (L.map keyOf).Nodup := by
  unfold List.Nodup
  rw [List.pairwise_map]
  refine h.imp fun {a b} hl he => ?_
  simp only [keyOf, Prod.mk.injEq] at he
  unfold ltE at hl
  rw [he.1, he.2] at hl
  omega
theorem Rep.good {M : List Ev} {c : Nat} {L : List Ent} (h : Rep M c L) : GoodG M c := by
  refine ⟨fun e he => h.ok e.1 (h.perm.mem_iff.1 (List.mem_map.2 ⟨e, he, rfl⟩)), ?_, h.bnd, h.lt⟩
  have h1 := (h.perm.map keyOf).nodup_iff.2 (srt_nod h.srt)
  rwa [List.map_map] at h1
theorem Rep.get {M : List Ev} {c : Nat} {L : List Ent} (h : Rep M c L) {e : Ent} (he : e ∈ L) : ∃ (k : Nat) (b : Nat), M[k]? = some (e, b) := by
  obtain ⟨⟨x, b⟩, hx, rfl⟩ := List.mem_map.1 (h.perm.mem_iff.2 he)
  obtain ⟨k, hk⟩ := List.getElem?_of_mem hx
  exact ⟨k, b, hk⟩
theorem Rep.len {M : List Ev} {c : Nat} {L : List Ent} (h : Rep M c L) : M.length = L.length := by
  have := h.perm.length_eq
  simpa using this
theorem Rep.none {M : List Ev} {c : Nat} {L : List Ent} (h : Rep M c L) {i : Int} {m : Mc} (hn : L.findIdx? (isK i m) = none) : M.findIdx? (fun e => isK i m e.1) = none := by
  rw [List.findIdx?_eq_none_iff] at hn ⊢
  intro e he
  exact hn e.1 (h.perm.mem_iff.1 (List.mem_map.2 ⟨e, he, rfl⟩))
theorem isK_eq {i : Int} {m : Mc} {e : Ent} (h : isK i m e = true) : i = e.i ∧ m = e.c := by
  simp only [isK, decide_eq_true_eq] at h
  exact ⟨h.1.symm, h.2.symm⟩
/-- What is found. -/
def lookL (L : List Ent) (i : Int) (m : Mc) : Option Ent := L.find? (isK i m)
theorem look_idx {L : List Ent} {i : Int} {m : Mc} {j : Nat} (h : L.findIdx? (isK i m) = some j) : ∃ e, L[j]? = some e ∧ isK i m e = true ∧ lookL L i m = some e := by
  obtain ⟨hj, h1, h2⟩ := List.findIdx?_eq_some_iff_getElem.1 h
  refine ⟨L[j], List.getElem?_eq_getElem hj, h1, ?_⟩
  unfold lookL
  rw [List.find?_eq_some_iff_getElem]
  exact ⟨h1, j, hj, rfl, fun k hk => by simpa using h2 k hk⟩
theorem look_none {L : List Ent} {i : Int} {m : Mc} (h : L.findIdx? (isK i m) = none) : lookL L i m = none := by
  rw [List.findIdx?_eq_none_iff] at h
  unfold lookL
  rw [List.find?_eq_none]
  intro x hx
  simp [h x hx]
theorem Rep.some {M : List Ev} {c : Nat} {L : List Ent} (h : Rep M c L) {i : Int} {m : Mc} {j : Nat} (hj : L.findIdx? (isK i m) = some j) : ∃ k b e, L[j]? = some e ∧ i = e.i ∧ m = e.c ∧ lookL L i m = some e ∧ M[k]? = some (e, b) ∧ M.findIdx? (fun x => isK i m x.1) = some k := by
  obtain ⟨e, h1, h2, h3⟩ := look_idx hj
  obtain ⟨hi, hm⟩ := isK_eq h2
  obtain ⟨k, b, hk⟩ := h.get (List.mem_of_getElem? h1)
  have := findG_of h.good.nod hk
  simp only [← hi, ← hm] at this
  exact ⟨k, b, e, h1, hi, hm, h3, hk, this⟩

def fndV : Option Ent → V
  | some e => .tuple [mV e.b, vB true]
  | none => .tuple [M6 0 0 0 0 0 0, vB false]
theorem gq13 (r a : Int) {M : List Ev} {c : Nat} {L : List Ent} (h : Rep M c L) (i : Int) (m : Mc) : AC Try.prog 13 [.ptr 0 0 0, vI i, mV m] (hB r a (encG M) c) (eqS (fndV (lookL L i m)) (hB r a (encG M) c)) := by
  have n25 := bc25 r a (encG M) c (encG_flat M)
  have hk := gkeq i i m m
  have hf := findG i m M
  cases hj : L.findIdx? (isK i m) with
  | none =>
    rw [h.none hj] at hf
    rw [look_none hj, fndV]
    refine AC_heap orders [0, 1] Try.func13 rfl (by kernel_rfl) (by kernel_rfl) Try.ntmps13 (by simp) ?_
    unfold Try.f13
    (have hwq := trivial; repeat' (first | simp (config := { maxSteps := 10000000, implicitDefEqProofs := false }) only [Q0, V.noimm, V.noimms, frzZs, frzZ, frzA, frzV, frzVs, frzBox, boxLen, Q1, Option.isSome, Q2, Q3, Q4, Q5, Q6, Q7, cond_true, cond_false, Q8, Q9, aopD, calW, flatV, Q10, Q11, stepX, amap, stepY, alookup, afind, aupdate, adelete, amlen, arange, ameq, mapOf, akeq, Q12, Q13, pl, Q14, Q15, Q16, Q17, V.mapT, V.mapTs, Q18, Option.bind, Q19, Q20, Q21, Q22, Q23, Q24, Q25, Q26, Q27, Q28, Q29, Q30, stepK, runK, Q31, Q32, Q33, Q34, Q35, Q36, guardD, Q37, Q38, Q39, Q40, Q41, stepE, runD, callD, Q42, Q43, Q44, Q45, Q46, Q47, Q48, Q49, Q50, Q51, Q52, Q53, Q54, Q55, Q56, Q57, Q58, Q59, Q60, Q61, Q62, Q63, Q64, Q65, Q66, Q67, Q68, Q69, Q70, Q71, Q72, Q73, compact, selB, Q74, Q75, Q76, Q77, callK, evS, Q78, Q79, ofVal, ofVals, scalar, aop, ares, mkRes, V.rn, V.rns, Q80, V.cells?, cellsAt, Go.Ai.part, aload, astore, setL, V.atom, abin, aun, intBin, shiftBin, aconv, fieldOf, aindexAddr, aindex, bound?, aslice, aarr, abuild, afill, alen, nilP, nilS, nilF, aeq, eqCells, eqCell, Go.Ai.known, strBin, abuiltin, aappend, abuildSlice, arowsFill, amakeSlice, acopy, minmax, rowsOf, numsT, notStr, isIntD, isByte, Q81, Q82, Q83, Q84, Q85, V.pz, V.pzs, T.toV, frz1, frz, scalT, scalTs, chunkT, Q86, Q87, Q88, Q89, Q90, Q91, Q92, Q93, Q94, List.range, List.range.loop, Q95, Q96, Q97, Q98, Q99, Q100, Q101, Q102, Q103, Q104, Q105, Q106, Q107, Q108, Q109, Q110, Q111, Q112, Q113, Q114, Q115, Q116, Q117, Q118, Q119, Q120, Q121, Q122, Q123, Q124, Q125, Q126, Q127, Q128, Q129, Q130, Int.reduceTDiv, Int.reduceTMod, Int.reduceFDiv, UInt8.reduceToNat, Nat.reduceAdd, Nat.reduceMul, Nat.reduceSub, Nat.reduceEqDiff, Nat.reduceLT, Nat.reduceLeDiff, Nat.reducePow, Nat.reduceDiv, Nat.reduceMod, Q131, Q132, Q133, Q134, Q135, Q136, Int.reduceLT, Int.reduceLE, Int.reduceAdd, Int.reduceMul, Int.reduceSub, Int.reduceNeg, Int.reduceToNat, Int.reducePow, Int.reduceEq, Q137, Q138, Q139, Q140, Q141, Q142, Q143, Q144, Q145, Q146, Q147, Q148, Q149, Q150, ↓reduceIte, ite_true, ite_false, if_true, if_false, Q151, Q152, Q153, Q154, Q155, Q156, Q157, Q158, Q159, Q160, Q161, ne_eq, Q162, Q163, Q164, Q165, Q166, Q167, Q168, Q169, Q170, Q171, Q172, Q173, Q174, Q175, reduceCtorEq, Q176, Q177, Int.reduceBEq, Int.reduceBNe, Nat.reduceBEq, Nat.reduceBNe, implies_true, forall_const, Q178, Q179, eq_self, Q180, reduceDIte, Q181, Q182, Q183, Q184, IntKind.bits, Q185, Q186, Q187, Q188, Q189, kPostKF_ret, kPostKF_normal, kPostX_ret, kPostX_normal, bsl, hwq, u3, a3, c3, b3, z3, k3, u4, a4, c4, b4, z4, k4, u5, a5, c5, b5, z5, k5, u23, a23, c23, b23, z23, k23, u31, a31, c31, b31, z31, k31, l31, u42, a42, c42, b42, z42, k42, l42, u58, a58, c58, b58, z58, k58, u60, a60, c60, b60, z60, k60, u69, a69, c69, b69, z69, k69, l69, grn, gmt, hf, hk] | (refine awpL_loop 18 ?_; have hwq := trivial) | (refine condK_split ?_ ?_ <;> intro hwq) | (refine guardK_split ?_ ?_ <;> intro hwq) | (refine guardE_split ?_ ?_ <;> intro hwq) | (refine awp_drawW [20, 15, 22, 23, 10] (by decide +kernel) ?_; have hwq := trivial) | (refine call_at [0, 1] n25 (by simp) (by decide) rfl rfl (by simp [gmt, mapT_box, V.mapTs, V.mapT, pl]) (V.les_refl _) ?_; have hwq := trivial) | fail))
  | some j =>
    obtain ⟨k, b, e, _, _, _, h3, h4, h5⟩ := h.some hj
    rw [h5] at hf
    rw [h3, fndV]
    have hg := encG_get h4
    refine AC_heap orders [0, 1] Try.func13 rfl (by kernel_rfl) (by kernel_rfl) Try.ntmps13 (by simp) ?_
    unfold Try.f13
    (have hwq := trivial; repeat' (first | simp (config := { maxSteps := 10000000, implicitDefEqProofs := false }) only [Q0, V.noimm, V.noimms, frzZs, frzZ, frzA, frzV, frzVs, frzBox, boxLen, Q1, Option.isSome, Q2, Q3, Q4, Q5, Q6, Q7, cond_true, cond_false, Q8, Q9, aopD, calW, flatV, Q10, Q11, stepX, amap, stepY, alookup, afind, aupdate, adelete, amlen, arange, ameq, mapOf, akeq, Q12, Q13, pl, Q14, Q15, Q16, Q17, V.mapT, V.mapTs, Q18, Option.bind, Q19, Q20, Q21, Q22, Q23, Q24, Q25, Q26, Q27, Q28, Q29, Q30, stepK, runK, Q31, Q32, Q33, Q34, Q35, Q36, guardD, Q37, Q38, Q39, Q40, Q41, stepE, runD, callD, Q42, Q43, Q44, Q45, Q46, Q47, Q48, Q49, Q50, Q51, Q52, Q53, Q54, Q55, Q56, Q57, Q58, Q59, Q60, Q61, Q62, Q63, Q64, Q65, Q66, Q67, Q68, Q69, Q70, Q71, Q72, Q73, compact, selB, Q74, Q75, Q76, Q77, callK, evS, Q78, Q79, ofVal, ofVals, scalar, aop, ares, mkRes, V.rn, V.rns, Q80, V.cells?, cellsAt, Go.Ai.part, aload, astore, setL, V.atom, abin, aun, intBin, shiftBin, aconv, fieldOf, aindexAddr, aindex, bound?, aslice, aarr, abuild, afill, alen, nilP, nilS, nilF, aeq, eqCells, eqCell, Go.Ai.known, strBin, abuiltin, aappend, abuildSlice, arowsFill, amakeSlice, acopy, minmax, rowsOf, numsT, notStr, isIntD, isByte, Q81, Q82, Q83, Q84, Q85, V.pz, V.pzs, T.toV, frz1, frz, scalT, scalTs, chunkT, Q86, Q87, Q88, Q89, Q90, Q91, Q92, Q93, Q94, List.range, List.range.loop, Q95, Q96, Q97, Q98, Q99, Q100, Q101, Q102, Q103, Q104, Q105, Q106, Q107, Q108, Q109, Q110, Q111, Q112, Q113, Q114, Q115, Q116, Q117, Q118, Q119, Q120, Q121, Q122, Q123, Q124, Q125, Q126, Q127, Q128, Q129, Q130, Int.reduceTDiv, Int.reduceTMod, Int.reduceFDiv, UInt8.reduceToNat, Nat.reduceAdd, Nat.reduceMul, Nat.reduceSub, Nat.reduceEqDiff, Nat.reduceLT, Nat.reduceLeDiff, Nat.reducePow, Nat.reduceDiv, Nat.reduceMod, Q131, Q132, Q133, Q134, Q135, Q136, Int.reduceLT, Int.reduceLE, Int.reduceAdd, Int.reduceMul, Int.reduceSub, Int.reduceNeg, Int.reduceToNat, Int.reducePow, Int.reduceEq, Q137, Q138, Q139, Q140, Q141, Q142, Q143, Q144, Q145, Q146, Q147, Q148, Q149, Q150, ↓reduceIte, ite_true, ite_false, if_true, if_false, Q151, Q152, Q153, Q154, Q155, Q156, Q157, Q158, Q159, Q160, Q161, ne_eq, Q162, Q163, Q164, Q165, Q166, Q167, Q168, Q169, Q170, Q171, Q172, Q173, Q174, Q175, reduceCtorEq, Q176, Q177, Int.reduceBEq, Int.reduceBNe, Nat.reduceBEq, Nat.reduceBNe, implies_true, forall_const, Q178, Q179, eq_self, Q180, reduceDIte, Q181, Q182, Q183, Q184, IntKind.bits, Q185, Q186, Q187, Q188, Q189, kPostKF_ret, kPostKF_normal, kPostX_ret, kPostX_normal, bsl, hwq, u3, a3, c3, b3, z3, k3, u4, a4, c4, b4, z4, k4, u5, a5, c5, b5, z5, k5, u23, a23, c23, b23, z23, k23, u31, a31, c31, b31, z31, k31, l31, u42, a42, c42, b42, z42, k42, l42, u58, a58, c58, b58, z58, k58, u60, a60, c60, b60, z60, k60, u69, a69, c69, b69, z69, k69, l69, grn, gmt, hf, hk, hg] | (refine awpL_loop 18 ?_; have hwq := trivial) | (refine condK_split ?_ ?_ <;> intro hwq) | (refine guardK_split ?_ ?_ <;> intro hwq) | (refine guardE_split ?_ ?_ <;> intro hwq) | (refine awp_drawW [20, 15, 22, 23, 10] (by decide +kernel) ?_; have hwq := trivial) | (refine call_at [0, 1] n25 (by simp) (by decide) rfl rfl (by simp [gmt, mapT_box, V.mapTs, V.mapT, pl]) (V.les_refl _) ?_; have hwq := trivial) | fail))
theorem gq12 (r a : Int) (M : List Ev) (c : Nat) : AC Try.prog 12 [.ptr 0 0 0] (hB r a (encG M) c) (eqS (vI (M.length : Nat)) (hB r a (encG M) c)) := by
  have hel := encG_len M
  have n25 := bc25 r a (encG M) c (encG_flat M)
  refine AC_heap orders [0, 1] Try.func12 rfl (by kernel_rfl) (by kernel_rfl) Try.ntmps12 (by simp) ?_
  unfold Try.f12
  (have hwq := trivial; repeat' (first | simp (config := { maxSteps := 10000000, implicitDefEqProofs := false }) only [Q0, V.noimm, V.noimms, frzZs, frzZ, frzA, frzV, frzVs, frzBox, boxLen, Q1, Option.isSome, Q2, Q3, Q4, Q5, Q6, Q7, cond_true, cond_false, Q8, Q9, aopD, calW, flatV, Q10, Q11, stepX, amap, stepY, alookup, afind, aupdate, adelete, amlen, arange, ameq, mapOf, akeq, Q12, Q13, pl, Q14, Q15, Q16, Q17, V.mapT, V.mapTs, Q18, Option.bind, Q19, Q20, Q21, Q22, Q23, Q24, Q25, Q26, Q27, Q28, Q29, Q30, stepK, runK, Q31, Q32, Q33, Q34, Q35, Q36, guardD, Q37, Q38, Q39, Q40, Q41, stepE, runD, callD, Q42, Q43, Q44, Q45, Q46, Q47, Q48, Q49, Q50, Q51, Q52, Q53, Q54, Q55, Q56, Q57, Q58, Q59, Q60, Q61, Q62, Q63, Q64, Q65, Q66, Q67, Q68, Q69, Q70, Q71, Q72, Q73, compact, selB, Q74, Q75, Q76, Q77, callK, evS, Q78, Q79, ofVal, ofVals, scalar, aop, ares, mkRes, V.rn, V.rns, Q80, V.cells?, cellsAt, Go.Ai.part, aload, astore, setL, V.atom, abin, aun, intBin, shiftBin, aconv, fieldOf, aindexAddr, aindex, bound?, aslice, aarr, abuild, afill, alen, nilP, nilS, nilF, aeq, eqCells, eqCell, Go.Ai.known, strBin, abuiltin, aappend, abuildSlice, arowsFill, amakeSlice, acopy, minmax, rowsOf, numsT, notStr, isIntD, isByte, Q81, Q82, Q83, Q84, Q85, V.pz, V.pzs, T.toV, frz1, frz, scalT, scalTs, chunkT, Q86, Q87, Q88, Q89, Q90, Q91, Q92, Q93, Q94, List.range, List.range.loop, Q95, Q96, Q97, Q98, Q99, Q100, Q101, Q102, Q103, Q104, Q105, Q106, Q107, Q108, Q109, Q110, Q111, Q112, Q113, Q114, Q115, Q116, Q117, Q118, Q119, Q120, Q121, Q122, Q123, Q124, Q125, Q126, Q127, Q128, Q129, Q130, Int.reduceTDiv, Int.reduceTMod, Int.reduceFDiv, UInt8.reduceToNat, Nat.reduceAdd, Nat.reduceMul, Nat.reduceSub, Nat.reduceEqDiff, Nat.reduceLT, Nat.reduceLeDiff, Nat.reducePow, Nat.reduceDiv, Nat.reduceMod, Q131, Q132, Q133, Q134, Q135, Q136, Int.reduceLT, Int.reduceLE, Int.reduceAdd, Int.reduceMul, Int.reduceSub, Int.reduceNeg, Int.reduceToNat, Int.reducePow, Int.reduceEq, Q137, Q138, Q139, Q140, Q141, Q142, Q143, Q144, Q145, Q146, Q147, Q148, Q149, Q150, ↓reduceIte, ite_true, ite_false, if_true, if_false, Q151, Q152, Q153, Q154, Q155, Q156, Q157, Q158, Q159, Q160, Q161, ne_eq, Q162, Q163, Q164, Q165, Q166, Q167, Q168, Q169, Q170, Q171, Q172, Q173, Q174, Q175, reduceCtorEq, Q176, Q177, Int.reduceBEq, Int.reduceBNe, Nat.reduceBEq, Nat.reduceBNe, implies_true, forall_const, Q178, Q179, eq_self, Q180, reduceDIte, Q181, Q182, Q183, Q184, IntKind.bits, Q185, Q186, Q187, Q188, Q189, kPostKF_ret, kPostKF_normal, kPostX_ret, kPostX_normal, bsl, hwq, u3, a3, c3, b3, z3, k3, u5, a5, c5, b5, z5, k5, u23, a23, c23, b23, z23, k23, u31, a31, c31, b31, z31, k31, l31, u42, a42, c42, b42, z42, k42, l42, u58, a58, c58, b58, z58, k58, u60, a60, c60, b60, z60, k60, u69, a69, c69, b69, z69, k69, l69, grn, gmt, hel] | (refine awpL_loop 18 ?_; have hwq := trivial) | (refine condK_split ?_ ?_ <;> intro hwq) | (refine guardK_split ?_ ?_ <;> intro hwq) | (refine guardE_split ?_ ?_ <;> intro hwq) | (refine awp_drawW [20, 15, 22, 23, 10] (by decide +kernel) ?_; have hwq := trivial) | (refine call_at [0, 1] n25 (by simp) (by decide) rfl rfl (by simp [gmt, mapT_box, V.mapTs, V.mapT, pl]) (V.les_refl _) ?_; have hwq := trivial) | fail))

theorem perm_erase {α : Type} {L : List α} {e : α} {j : Nat} (hj : L[j]? = some e) : L.Perm (e :: L.eraseIdx j) := by
  induction L generalizing j with
  | nil => simp at hj
  | cons x L ih =>
    cases j with
    | zero => simp at hj; subst hj; exact List.Perm.refl _
    | succ j =>
      simp at hj
      rw [List.eraseIdx_cons_succ]
      exact ((ih hj).cons x).trans (List.Perm.swap e x _)
theorem perm_set {α : Type} {L : List α} {e y : α} {j : Nat} (hj : L[j]? = some e) : (L.set j y).Perm (y :: L.eraseIdx j) := by
  induction L generalizing j with
  | nil => simp at hj
  | cons x L ih =>
    cases j with
    | zero => simp at hj; exact List.Perm.refl _
    | succ j =>
      simp at hj
      rw [List.set_cons_succ, List.eraseIdx_cons_succ]
      exact ((ih hj).cons x).trans (List.Perm.swap y x _)
theorem insE_perm (e : Ent) : ∀ L : List Ent, (insE e L).Perm (e :: L)
  | [] => List.Perm.refl _
  | x :: L => by
    rw [insE]
    split
    · exact List.Perm.refl _
    · exact ((insE_perm e L).cons x).trans (List.Perm.swap e x L)
theorem ltE_total {x e : Ent} (hx : okM x.c) (he : okM e.c) (hne : keyOf x ≠ keyOf e) (h : ¬ ltE e x) : ltE x e := by
  unfold ltE at *
  by_cases h1 : x.i = e.i
  · have : numM x.c ≠ numM e.c := fun hh => hne (by simp [keyOf, h1, numM_inj hx he hh])
    omega
  · omega
theorem insE_srt {e : Ent} (he : okM e.c) : ∀ {L : List Ent}, Srt L → (∀ x ∈ L, okM x.c) → (∀ x ∈ L, keyOf x ≠ keyOf e) → Srt (insE e L)
  | [], _, _, _ => by simp [insE, Srt]
  | x :: L, h, hok, hne => by
    rw [insE]
    have hx := List.Pairwise.of_cons h
    split
    · rename_i ha
      rw [aheadB_iff] at ha
      refine List.Pairwise.cons (fun y hy => ?_) h
      rcases List.mem_cons.1 hy with rfl | hy
      · exact ha
      · have := List.rel_of_pairwise_cons h hy
        unfold ltE at *
        omega
    · rename_i ha
      rw [aheadB_iff] at ha
      have hl := ltE_total (hok x (by simp)) he (hne x (by simp)) ha
      refine List.Pairwise.cons (fun y hy => ?_) (insE_srt he hx (fun z hz => hok z (by simp [hz])) (fun z hz => hne z (by simp [hz])))
      rcases List.mem_cons.1 ((insE_perm e L).mem_iff.1 hy) with rfl | hy
      · exact hl
      · exact List.rel_of_pairwise_cons h hy

/-! ### Who goes -/
def eldN (L : List Ent) : Nat → Nat
  | 0 => 0
  | j + 1 => if (L.getD j default).s < (L.getD (eldN L j) default).s then j else eldN L j
def eld (L : List Ent) : Nat := eldN L L.length
theorem eldN_le (L : List Ent) : ∀ j, eldN L j ≤ j
  | 0 => Nat.le_refl _
  | j + 1 => by
    have := eldN_le L j
    unfold eldN
    split <;> omega
theorem eldN_min (L : List Ent) : ∀ j, 0 < j → eldN L j < j ∧ ∀ n, n < j → (L.getD (eldN L j) default).s ≤ (L.getD n default).s ∧ (n < eldN L j → (L.getD (eldN L j) default).s < (L.getD n default).s)
  | 0, h => by omega
  | j + 1, _ => by
    unfold eldN
    by_cases h0 : j = 0
    · subst h0
      simp only [eldN, Int.lt_irrefl, if_false]
      refine ⟨by omega, fun n hn => ?_⟩
      have : n = 0 := by omega
      subst this
      omega
    · have ih := eldN_min L j (by omega)
      split
      · rename_i hlt
        refine ⟨by omega, fun n hn => ?_⟩
        by_cases hnj : n = j
        · subst hnj; omega
        · have := ih.2 n (by omega)
          omega
      · rename_i hlt
        refine ⟨by omega, fun n hn => ?_⟩
        by_cases hnj : n = j
        · subst hnj; omega
        · exact ih.2 n (by omega)
theorem eld_get {L : List Ent} (hL : L ≠ []) : ∃ e, L[eld L]? = some e ∧ (Srt L → ∀ x ∈ L, x ≠ e → lt3 e x) := by
  have hp : 0 < L.length := List.length_pos_iff.2 hL
  obtain ⟨h1, h2⟩ := eldN_min L L.length hp
  change eld L < L.length at h1
  refine ⟨L[eld L], List.getElem?_eq_getElem h1, fun hs x hx hne => ?_⟩
  obtain ⟨n, hn, rfl⟩ := List.getElem_of_mem hx
  have h3 := h2 n hn
  change (L.getD (eld L) default).s ≤ _ ∧ (n < eld L → (L.getD (eld L) default).s < _) at h3
  rw [List.getD_eq_getElem?_getD, List.getD_eq_getElem?_getD, List.getElem?_eq_getElem h1, List.getElem?_eq_getElem hn] at h3
  simp only [Option.getD_some] at h3
  unfold lt3
  by_cases h4 : n < eld L
  · exact .inl (h3.2 h4)
  · have h5 : eld L < n := by
      rcases Nat.lt_or_ge (eld L) n with h | h
      · exact h
      · exact (hne (by congr 1; omega)).elim
    have := List.pairwise_iff_getElem.1 hs (eld L) n h1 hn h5
    by_cases h6 : L[eld L].s < L[n].s
    · exact .inl h6
    · exact .inr ⟨by omega, this⟩

def learnR (r : Int) (L : List Ent) (e : Ent) : List Ent :=
  match L.findIdx? (isK e.i e.c) with
  | some k => insE e (L.eraseIdx k)
  | none => if r ≤ (L.length : Int) then insE e (L.eraseIdx (eld L)) else insE e L
def okA (i : Int) (c b : Mc) (s : Int) : Prop := (1 ≤ i ∧ i ≤ 16777215) ∧ kindZ c.a c.b c.c c.d c.e c.f = 1 ∧ kindZ b.a b.b b.c b.d b.e b.f = 1 ∧ (0 ≤ s ∧ s ≤ 1099511627776)
theorem sub_key {L N : List Ent} {e x : Ent} {k : Nat} (hs : Srt L) (hk : L[k]? = some x) (hx : keyOf x = keyOf e) : ∀ y ∈ L.eraseIdx k, keyOf y ≠ keyOf e := by
  intro y hy he
  have h1 := (perm_erase hk).map keyOf
  have h2 := h1.nodup_iff.1 (srt_nod hs)
  rw [List.map_cons, List.nodup_cons] at h2
  exact h2.1 (List.mem_map.2 ⟨y, hy, he.trans hx.symm⟩)

theorem learn_rep {M : List Ev} {c : Nat} {L : List Ent} (h : Rep M c L) {N : List Ent} {M' : List Ev} {c' : Nat} {e : Ent} (he : okE e) (hN : N.Sublist L) (hne : ∀ x ∈ N, keyOf x ≠ keyOf e) (hp : (M'.map (·.1)).Perm (e :: N)) (hb : (M'.map (·.2)).Nodup) (hl : ∀ x ∈ M', x.2 < c') : Rep M' c' (insE e N) := by
  refine ⟨hp.trans (insE_perm e N).symm, insE_srt he.1 (h.srt.sublist hN) (fun x hx => (h.ok x (hN.subset hx)).1) hne, fun x hx => ?_, hb, hl⟩
  rcases List.mem_cons.1 ((insE_perm e N).mem_iff.1 hx) with rfl | hx
  · exact he
  · exact h.ok x (hN.subset hx)
theorem map_eraseIdx' {α β : Type} (f : α → β) : ∀ (L : List α) (k : Nat), (L.eraseIdx k).map f = (L.map f).eraseIdx k
  | [], _ => rfl
  | x :: L, 0 => rfl
  | x :: L, k + 1 => by simp [map_eraseIdx' f L k]

theorem gq10 (r a : Int) {M : List Ev} {c : Nat} {L : List Ent} (h : Rep M c L) (i : Int) (m n : Mc) (s : Int) (hm : okM m) (hn : okM n) (hr : 1 ≤ r) (hA : okA i m n s) :
    ∃ M' c', AC Try.prog 10 [.ptr 0 0 0, vI i, mV m, mV n, vI s] (hB r a (encG M) c) (eqS (vI 0) (hB r a (encG M') c')) ∧ Rep M' c' (learnR r L ⟨i, m, n, s⟩) := by
  obtain ⟨hi, km, kn, hs⟩ := hA
  have hoke : okE ⟨i, m, n, s⟩ := ⟨hm, hn, hi, hs⟩
  have n25 := bc25 r a (encG M) c (encG_flat M)
  have hk := gkeq i i m m
  have hf := findG i m M
  have hel := encG_len M
  have k1 := gc26 m.a m.b m.c m.d m.e m.f hm.1
  have k2 := gc26 n.a n.b n.c n.d n.e n.f hn.1
  rw [km] at k1
  rw [kn] at k2
  have n24 := bc24 i 1 16777215
  have n24' := bc24 s 0 1099511627776
  rw [decide_eq_true hi] at n24
  rw [decide_eq_true hs] at n24'
  cases hj : L.findIdx? (isK i m) with
  | some j =>
    obtain ⟨k, b, x, h1, hxi, hxm, h3, h4, h5⟩ := h.some hj
    rw [h5] at hf
    have hg := encG_get h4
    have hse := encG_set M k ⟨i, m, n, s⟩ b
    refine ⟨M.set k (⟨i, m, n, s⟩, b), c, ?_, ?_⟩
    · refine AC_heap orders [0, 1] Try.func10 rfl (by kernel_rfl) (by kernel_rfl) Try.ntmps10 (by simp) ?_
      unfold Try.f10
      (have hwq := trivial; repeat' (first | simp (config := { maxSteps := 10000000, implicitDefEqProofs := false }) only [Q0, V.noimm, V.noimms, frzZs, frzZ, frzA, frzV, frzVs, frzBox, boxLen, Q1, Option.isSome, Q2, Q3, Q4, Q5, Q6, Q7, cond_true, cond_false, Q8, Q9, aopD, calW, flatV, Q10, Q11, stepX, amap, stepY, alookup, afind, aupdate, adelete, amlen, arange, ameq, mapOf, akeq, Q12, Q13, pl, Q14, Q15, Q16, Q17, V.mapT, V.mapTs, Q18, Option.bind, Q19, Q20, Q21, Q22, Q23, Q24, Q25, Q26, Q27, Q28, Q29, Q30, stepK, runK, Q31, Q32, Q33, Q34, Q35, Q36, guardD, Q37, Q38, Q39, Q40, Q41, stepE, runD, callD, Q42, Q43, Q44, Q45, Q46, Q47, Q48, Q49, Q50, Q51, Q52, Q53, Q54, Q55, Q56, Q57, Q58, Q59, Q60, Q61, Q62, Q63, Q64, Q65, Q66, Q67, Q68, Q69, Q70, Q71, Q72, Q73, compact, selB, Q74, Q75, Q76, Q77, callK, evS, Q78, Q79, ofVal, ofVals, scalar, aop, ares, mkRes, V.rn, V.rns, Q80, V.cells?, cellsAt, Go.Ai.part, aload, astore, setL, V.atom, abin, aun, intBin, shiftBin, aconv, fieldOf, aindexAddr, aindex, bound?, aslice, aarr, abuild, afill, alen, nilP, nilS, nilF, aeq, eqCells, eqCell, Go.Ai.known, strBin, abuiltin, aappend, abuildSlice, arowsFill, amakeSlice, acopy, minmax, rowsOf, numsT, notStr, isIntD, isByte, Q81, Q82, Q83, Q84, Q85, V.pz, V.pzs, T.toV, frz1, frz, scalT, scalTs, chunkT, Q86, Q87, Q88, Q89, Q90, Q91, Q92, Q93, Q94, List.range, List.range.loop, Q95, Q96, Q97, Q98, Q99, Q100, Q101, Q102, Q103, Q104, Q105, Q106, Q107, Q108, Q109, Q110, Q111, Q112, Q113, Q114, Q115, Q116, Q117, Q118, Q119, Q120, Q121, Q122, Q123, Q124, Q125, Q126, Q127, Q128, Q129, Q130, Int.reduceTDiv, Int.reduceTMod, Int.reduceFDiv, UInt8.reduceToNat, Nat.reduceAdd, Nat.reduceMul, Nat.reduceSub, Nat.reduceEqDiff, Nat.reduceLT, Nat.reduceLeDiff, Nat.reducePow, Nat.reduceDiv, Nat.reduceMod, Q131, Q132, Q133, Q134, Q135, Q136, Int.reduceLT, Int.reduceLE, Int.reduceAdd, Int.reduceMul, Int.reduceSub, Int.reduceNeg, Int.reduceToNat, Int.reducePow, Int.reduceEq, Q137, Q138, Q139, Q140, Q141, Q142, Q143, Q144, Q145, Q146, Q147, Q148, Q149, Q150, ↓reduceIte, ite_true, ite_false, if_true, if_false, Q151, Q152, Q153, Q154, Q155, Q156, Q157, Q158, Q159, Q160, Q161, ne_eq, Q162, Q163, Q164, Q165, Q166, Q167, Q168, Q169, Q170, Q171, Q172, Q173, Q174, Q175, reduceCtorEq, Q176, Q177, Int.reduceBEq, Int.reduceBNe, Nat.reduceBEq, Nat.reduceBNe, implies_true, forall_const, Q178, Q179, eq_self, Q180, reduceDIte, Q181, Q182, Q183, Q184, IntKind.bits, Q185, Q186, Q187, Q188, Q189, kPostKF_ret, kPostKF_normal, kPostX_ret, kPostX_normal, bsl, hwq, u3, a3, c3, b3, z3, k3, u4, a4, c4, b4, z4, k4, u5, a5, c5, b5, z5, k5, u23, a23, c23, b23, z23, k23, u24, a24, c24, b24, z24, k24, u31, a31, c31, b31, z31, k31, l31, u42, a42, c42, b42, z42, k42, l42, u58, a58, c58, b58, z58, k58, u60, a60, c60, b60, z60, k60, u66, a66, c66, b66, z66, k66, u69, a69, c69, b69, z69, k69, l69, grn, gmt, hf, hg, hk, hse] | (refine awpL_loop 18 ?_; have hwq := trivial) | (refine condK_split ?_ ?_ <;> intro hwq) | (refine guardK_split ?_ ?_ <;> intro hwq) | (refine guardE_split ?_ ?_ <;> intro hwq) | (refine awp_drawW [20, 15, 22, 23, 10] (by decide +kernel) ?_; have hwq := trivial) | (refine call_at [0, 1] n25 (by simp) (by decide) rfl rfl (by simp [gmt, mapT_box, V.mapTs, V.mapT, pl]) (V.les_refl _) ?_; have hwq := trivial) | (refine call_plain n24 rfl rfl ?_; have hwq := trivial) | (refine call_plain n24' rfl rfl ?_; have hwq := trivial) | (refine call_plain k1 rfl rfl ?_; have hwq := trivial) | (refine call_plain k2 rfl rfl ?_; have hwq := trivial) | fail))
    · have hlr : learnR r L ⟨i, m, n, s⟩ = insE ⟨i, m, n, s⟩ (L.eraseIdx j) := by unfold learnR; simp only; rw [hj]
      rw [hlr]
      have e1 : (M.map (·.1))[k]? = some x := by simp [h4]
      have p1 : ((M.map (·.1)).eraseIdx k).Perm (L.eraseIdx j) := (List.perm_cons x).1 ((perm_erase e1).symm.trans (h.perm.trans (perm_erase h1)))
      refine learn_rep h hoke (List.eraseIdx_sublist L j) (sub_key (N := []) h.srt h1 (by simp [keyOf, hxi, hxm])) ?_ ?_ ?_
      · rw [List.map_set]
        exact (perm_set e1).trans (p1.cons _)
      · rw [List.map_set, set_same (by simp [h4])]
        exact h.bnd
      · intro y hy
        rcases List.mem_or_eq_of_mem_set hy with h6 | h6
        · exact h.lt y h6
        · subst h6; exact h.lt (x, b) (List.mem_of_getElem? h4)
  | none =>
    rw [h.none hj] at hf
    have hno : ∀ x ∈ L, keyOf x ≠ keyOf ⟨i, m, n, s⟩ := by
      intro x hx he
      rw [List.findIdx?_eq_none_iff] at hj
      have := hj x hx
      simp only [keyOf, Prod.mk.injEq] at he
      simp [isK, he] at this
    have app : ∀ N : List Ev, N.Sublist M → ((N ++ [((⟨i, m, n, s⟩ : Ent), c)]).map (·.2)).Nodup ∧ ∀ x ∈ N ++ [((⟨i, m, n, s⟩ : Ent), c)], x.2 < c + 1 := by
      intro N hN
      constructor
      · rw [List.map_append, List.nodup_append]
        refine ⟨h.bnd.sublist (hN.map _), by simp, ?_⟩
        intro a ha b hb
        obtain ⟨e, he, rfl⟩ := List.mem_map.1 ha
        simp at hb
        subst hb
        have := h.lt e (hN.subset he)
        omega
      · intro x hx
        rcases List.mem_append.1 hx with h6 | h6
        · have := h.lt x (hN.subset h6); omega
        · simp at h6; subst h6; simp
    by_cases hroom : r ≤ (L.length : Int)
    · have hne : L ≠ [] := by intro hh; subst hh; simp at hroom; omega
      obtain ⟨x, h1, h2⟩ := eld_get hne
      have hxL := List.mem_of_getElem? h1
      obtain ⟨k, b, h4⟩ := h.get hxL
      have n27 := gq27 r a M c h.good k (x, b) h4 (fun y hy hyx => h2 h.srt y.1 (h.perm.mem_iff.1 (List.mem_map.2 ⟨y, hy, rfl⟩)) (fun hh => hyx (by
        have := map_inj h.good.nod hy (List.mem_of_getElem? h4) (by simp [hh])
        exact this)))
      have hf' := findG i m (M.eraseIdx k)
      have hf0 : (M.eraseIdx k).findIdx? (fun e => isK i m e.1) = none := by
        have h0 := h.none hj
        rw [List.findIdx?_eq_none_iff] at h0 ⊢
        exact fun e he => h0 e (List.mem_of_mem_eraseIdx he)
      rw [hf0] at hf'
      have hse := encG_app (M.eraseIdx k) ⟨i, m, n, s⟩ c
      have hro : r ≤ (M.length : Int) := by rw [h.len]; exact hroom
      refine ⟨M.eraseIdx k ++ [(⟨i, m, n, s⟩, c)], c + 1, ?_, ?_⟩
      · refine AC_heap orders [0, 1] Try.func10 rfl (by kernel_rfl) (by kernel_rfl) Try.ntmps10 (by simp) ?_
        unfold Try.f10
        (have hwq := trivial; repeat' (first | simp (config := { maxSteps := 10000000, implicitDefEqProofs := false }) only [Q0, V.noimm, V.noimms, frzZs, frzZ, frzA, frzV, frzVs, frzBox, boxLen, Q1, Option.isSome, Q2, Q3, Q4, Q5, Q6, Q7, cond_true, cond_false, Q8, Q9, aopD, calW, flatV, Q10, Q11, stepX, amap, stepY, alookup, afind, aupdate, adelete, amlen, arange, ameq, mapOf, akeq, Q12, Q13, pl, Q14, Q15, Q16, Q17, V.mapT, V.mapTs, Q18, Option.bind, Q19, Q20, Q21, Q22, Q23, Q24, Q25, Q26, Q27, Q28, Q29, Q30, stepK, runK, Q31, Q32, Q33, Q34, Q35, Q36, guardD, Q37, Q38, Q39, Q40, Q41, stepE, runD, callD, Q42, Q43, Q44, Q45, Q46, Q47, Q48, Q49, Q50, Q51, Q52, Q53, Q54, Q55, Q56, Q57, Q58, Q59, Q60, Q61, Q62, Q63, Q64, Q65, Q66, Q67, Q68, Q69, Q70, Q71, Q72, Q73, compact, selB, Q74, Q75, Q76, Q77, callK, evS, Q78, Q79, ofVal, ofVals, scalar, aop, ares, mkRes, V.rn, V.rns, Q80, V.cells?, cellsAt, Go.Ai.part, aload, astore, setL, V.atom, abin, aun, intBin, shiftBin, aconv, fieldOf, aindexAddr, aindex, bound?, aslice, aarr, abuild, afill, alen, nilP, nilS, nilF, aeq, eqCells, eqCell, Go.Ai.known, strBin, abuiltin, aappend, abuildSlice, arowsFill, amakeSlice, acopy, minmax, rowsOf, numsT, notStr, isIntD, isByte, Q81, Q82, Q83, Q84, Q85, V.pz, V.pzs, T.toV, frz1, frz, scalT, scalTs, chunkT, Q86, Q87, Q88, Q89, Q90, Q91, Q92, Q93, Q94, List.range, List.range.loop, Q95, Q96, Q97, Q98, Q99, Q100, Q101, Q102, Q103, Q104, Q105, Q106, Q107, Q108, Q109, Q110, Q111, Q112, Q113, Q114, Q115, Q116, Q117, Q118, Q119, Q120, Q121, Q122, Q123, Q124, Q125, Q126, Q127, Q128, Q129, Q130, Int.reduceTDiv, Int.reduceTMod, Int.reduceFDiv, UInt8.reduceToNat, Nat.reduceAdd, Nat.reduceMul, Nat.reduceSub, Nat.reduceEqDiff, Nat.reduceLT, Nat.reduceLeDiff, Nat.reducePow, Nat.reduceDiv, Nat.reduceMod, Q131, Q132, Q133, Q134, Q135, Q136, Int.reduceLT, Int.reduceLE, Int.reduceAdd, Int.reduceMul, Int.reduceSub, Int.reduceNeg, Int.reduceToNat, Int.reducePow, Int.reduceEq, Q137, Q138, Q139, Q140, Q141, Q142, Q143, Q144, Q145, Q146, Q147, Q148, Q149, Q150, ↓reduceIte, ite_true, ite_false, if_true, if_false, Q151, Q152, Q153, Q154, Q155, Q156, Q157, Q158, Q159, Q160, Q161, ne_eq, Q162, Q163, Q164, Q165, Q166, Q167, Q168, Q169, Q170, Q171, Q172, Q173, Q174, Q175, reduceCtorEq, Q176, Q177, Int.reduceBEq, Int.reduceBNe, Nat.reduceBEq, Nat.reduceBNe, implies_true, forall_const, Q178, Q179, eq_self, Q180, reduceDIte, Q181, Q182, Q183, Q184, IntKind.bits, Q185, Q186, Q187, Q188, Q189, kPostKF_ret, kPostKF_normal, kPostX_ret, kPostX_normal, bsl, hwq, u3, a3, c3, b3, z3, k3, u4, a4, c4, b4, z4, k4, u5, a5, c5, b5, z5, k5, u23, a23, c23, b23, z23, k23, u24, a24, c24, b24, z24, k24, u31, a31, c31, b31, z31, k31, l31, u42, a42, c42, b42, z42, k42, l42, u58, a58, c58, b58, z58, k58, u60, a60, c60, b60, z60, k60, u66, a66, c66, b66, z66, k66, u69, a69, c69, b69, z69, k69, l69, grn, gmt, hf, hf', hk, hse, hel, hro] | (refine awpL_loop 18 ?_; have hwq := trivial) | (refine condK_split ?_ ?_ <;> intro hwq) | (refine guardK_split ?_ ?_ <;> intro hwq) | (refine guardE_split ?_ ?_ <;> intro hwq) | (refine awp_drawW [20, 15, 22, 23, 10] (by decide +kernel) ?_; have hwq := trivial) | (refine call_at [0, 1] n25 (by simp) (by decide) rfl rfl (by simp [gmt, mapT_box, V.mapTs, V.mapT, pl]) (V.les_refl _) ?_; have hwq := trivial) | (refine call_at [0, 1] n27 (by simp) (by decide) rfl rfl (by simp [gmt, mapT_box, V.mapTs, V.mapT, pl]) (V.les_refl _) ?_; have hwq := trivial) | (refine call_plain n24 rfl rfl ?_; have hwq := trivial) | (refine call_plain n24' rfl rfl ?_; have hwq := trivial) | (refine call_plain k1 rfl rfl ?_; have hwq := trivial) | (refine call_plain k2 rfl rfl ?_; have hwq := trivial) | fail))
      · have hlr : learnR r L ⟨i, m, n, s⟩ = insE ⟨i, m, n, s⟩ (L.eraseIdx (eld L)) := by unfold learnR; simp only; rw [hj, if_pos hroom]
        rw [hlr]
        have e1 : (M.map (·.1))[k]? = some x := by simp [h4]
        have p1 : ((M.map (·.1)).eraseIdx k).Perm (L.eraseIdx (eld L)) := (List.perm_cons x).1 ((perm_erase e1).symm.trans (h.perm.trans (perm_erase h1)))
        have hsb := List.eraseIdx_sublist M k
        refine learn_rep h hoke (List.eraseIdx_sublist L _) (fun y hy => hno y (List.mem_of_mem_eraseIdx hy)) ?_ (app _ hsb).1 (app _ hsb).2
        rw [List.map_append, map_eraseIdx']
        exact (p1.append_right _).trans List.perm_append_comm
    · have hse := encG_app M ⟨i, m, n, s⟩ c
      have hro : ¬ r ≤ (M.length : Int) := by rw [h.len]; exact hroom
      refine ⟨M ++ [(⟨i, m, n, s⟩, c)], c + 1, ?_, ?_⟩
      · refine AC_heap orders [0, 1] Try.func10 rfl (by kernel_rfl) (by kernel_rfl) Try.ntmps10 (by simp) ?_
        unfold Try.f10
        (have hwq := trivial; repeat' (first | simp (config := { maxSteps := 10000000, implicitDefEqProofs := false }) only [Q0, V.noimm, V.noimms, frzZs, frzZ, frzA, frzV, frzVs, frzBox, boxLen, Q1, Option.isSome, Q2, Q3, Q4, Q5, Q6, Q7, cond_true, cond_false, Q8, Q9, aopD, calW, flatV, Q10, Q11, stepX, amap, stepY, alookup, afind, aupdate, adelete, amlen, arange, ameq, mapOf, akeq, Q12, Q13, pl, Q14, Q15, Q16, Q17, V.mapT, V.mapTs, Q18, Option.bind, Q19, Q20, Q21, Q22, Q23, Q24, Q25, Q26, Q27, Q28, Q29, Q30, stepK, runK, Q31, Q32, Q33, Q34, Q35, Q36, guardD, Q37, Q38, Q39, Q40, Q41, stepE, runD, callD, Q42, Q43, Q44, Q45, Q46, Q47, Q48, Q49, Q50, Q51, Q52, Q53, Q54, Q55, Q56, Q57, Q58, Q59, Q60, Q61, Q62, Q63, Q64, Q65, Q66, Q67, Q68, Q69, Q70, Q71, Q72, Q73, compact, selB, Q74, Q75, Q76, Q77, callK, evS, Q78, Q79, ofVal, ofVals, scalar, aop, ares, mkRes, V.rn, V.rns, Q80, V.cells?, cellsAt, Go.Ai.part, aload, astore, setL, V.atom, abin, aun, intBin, shiftBin, aconv, fieldOf, aindexAddr, aindex, bound?, aslice, aarr, abuild, afill, alen, nilP, nilS, nilF, aeq, eqCells, eqCell, Go.Ai.known, strBin, abuiltin, aappend, abuildSlice, arowsFill, amakeSlice, acopy, minmax, rowsOf, numsT, notStr, isIntD, isByte, Q81, Q82, Q83, Q84, Q85, V.pz, V.pzs, T.toV, frz1, frz, scalT, scalTs, chunkT, Q86, Q87, Q88, Q89, Q90, Q91, Q92, Q93, Q94, List.range, List.range.loop, Q95, Q96, Q97, Q98, Q99, Q100, Q101, Q102, Q103, Q104, Q105, Q106, Q107, Q108, Q109, Q110, Q111, Q112, Q113, Q114, Q115, Q116, Q117, Q118, Q119, Q120, Q121, Q122, Q123, Q124, Q125, Q126, Q127, Q128, Q129, Q130, Int.reduceTDiv, Int.reduceTMod, Int.reduceFDiv, UInt8.reduceToNat, Nat.reduceAdd, Nat.reduceMul, Nat.reduceSub, Nat.reduceEqDiff, Nat.reduceLT, Nat.reduceLeDiff, Nat.reducePow, Nat.reduceDiv, Nat.reduceMod, Q131, Q132, Q133, Q134, Q135, Q136, Int.reduceLT, Int.reduceLE, Int.reduceAdd, Int.reduceMul, Int.reduceSub, Int.reduceNeg, Int.reduceToNat, Int.reducePow, Int.reduceEq, Q137, Q138, Q139, Q140, Q141, Q142, Q143, Q144, Q145, Q146, Q147, Q148, Q149, Q150, ↓reduceIte, ite_true, ite_false, if_true, if_false, Q151, Q152, Q153, Q154, Q155, Q156, Q157, Q158, Q159, Q160, Q161, ne_eq, Q162, Q163, Q164, Q165, Q166, Q167, Q168, Q169, Q170, Q171, Q172, Q173, Q174, Q175, reduceCtorEq, Q176, Q177, Int.reduceBEq, Int.reduceBNe, Nat.reduceBEq, Nat.reduceBNe, implies_true, forall_const, Q178, Q179, eq_self, Q180, reduceDIte, Q181, Q182, Q183, Q184, IntKind.bits, Q185, Q186, Q187, Q188, Q189, kPostKF_ret, kPostKF_normal, kPostX_ret, kPostX_normal, bsl, hwq, u3, a3, c3, b3, z3, k3, u4, a4, c4, b4, z4, k4, u5, a5, c5, b5, z5, k5, u23, a23, c23, b23, z23, k23, u24, a24, c24, b24, z24, k24, u31, a31, c31, b31, z31, k31, l31, u42, a42, c42, b42, z42, k42, l42, u58, a58, c58, b58, z58, k58, u60, a60, c60, b60, z60, k60, u66, a66, c66, b66, z66, k66, u69, a69, c69, b69, z69, k69, l69, grn, gmt, hf, hk, hse, hel, hro] | (refine awpL_loop 18 ?_; have hwq := trivial) | (refine condK_split ?_ ?_ <;> intro hwq) | (refine guardK_split ?_ ?_ <;> intro hwq) | (refine guardE_split ?_ ?_ <;> intro hwq) | (refine awp_drawW [20, 15, 22, 23, 10] (by decide +kernel) ?_; have hwq := trivial) | (refine call_at [0, 1] n25 (by simp) (by decide) rfl rfl (by simp [gmt, mapT_box, V.mapTs, V.mapT, pl]) (V.les_refl _) ?_; have hwq := trivial) | (refine call_plain n24 rfl rfl ?_; have hwq := trivial) | (refine call_plain n24' rfl rfl ?_; have hwq := trivial) | (refine call_plain k1 rfl rfl ?_; have hwq := trivial) | (refine call_plain k2 rfl rfl ?_; have hwq := trivial) | fail))
      · have hlr : learnR r L ⟨i, m, n, s⟩ = insE ⟨i, m, n, s⟩ L := by unfold learnR; simp only; rw [hj, if_neg hroom]
        rw [hlr]
        refine learn_rep h hoke (List.Sublist.refl L) hno ?_ (app M (List.Sublist.refl M)).1 (app M (List.Sublist.refl M)).2
        rw [List.map_append]
        exact (h.perm.append_right _).trans List.perm_append_comm
theorem gq10n (r a : Int) (M : List Ev) (c : Nat) (i : Int) (m n : Mc) (s : Int) (hm : okM m) (hn : okM n) (hA : ¬ okA i m n s) :
    AC Try.prog 10 [.ptr 0 0 0, vI i, mV m, mV n, vI s] (hB r a (encG M) c) (eqS (vI 80) (hB r a (encG M) c)) := by
  have n25 := bc25 r a (encG M) c (encG_flat M)
  have k1 := gc26 m.a m.b m.c m.d m.e m.f hm.1
  have k2 := gc26 n.a n.b n.c n.d n.e n.f hn.1
  have n24 := bc24 i 1 16777215
  have n24' := bc24 s 0 1099511627776
  unfold okA at hA
  generalize kindZ m.a m.b m.c m.d m.e m.f = x at k1 hA
  generalize kindZ n.a n.b n.c n.d n.e n.f = y at k2 hA
  refine AC_heap orders [0, 1] Try.func10 rfl (by kernel_rfl) (by kernel_rfl) Try.ntmps10 (by simp) ?_
  unfold Try.f10
  by_cases hi : 1 ≤ i ∧ i ≤ 16777215
  · rw [decide_eq_true hi] at n24
    by_cases hx : x = 1
    · by_cases hy : y = 1
      · have hs : ¬ (0 ≤ s ∧ s ≤ 1099511627776) := fun hs => hA ⟨hi, hx, hy, hs⟩
        rw [decide_eq_false hs] at n24'
        subst hx hy
        (have hwq := trivial; repeat' (first | simp (config := { maxSteps := 10000000, implicitDefEqProofs := false }) only [Q0, V.noimm, V.noimms, frzZs, frzZ, frzA, frzV, frzVs, frzBox, boxLen, Q1, Option.isSome, Q2, Q3, Q4, Q5, Q6, Q7, cond_true, cond_false, Q8, Q9, aopD, calW, flatV, Q10, Q11, stepX, amap, stepY, alookup, afind, aupdate, adelete, amlen, arange, ameq, mapOf, akeq, Q12, Q13, pl, Q14, Q15, Q16, Q17, V.mapT, V.mapTs, Q18, Option.bind, Q19, Q20, Q21, Q22, Q23, Q24, Q25, Q26, Q27, Q28, Q29, Q30, stepK, runK, Q31, Q32, Q33, Q34, Q35, Q36, guardD, Q37, Q38, Q39, Q40, Q41, stepE, runD, callD, Q42, Q43, Q44, Q45, Q46, Q47, Q48, Q49, Q50, Q51, Q52, Q53, Q54, Q55, Q56, Q57, Q58, Q59, Q60, Q61, Q62, Q63, Q64, Q65, Q66, Q67, Q68, Q69, Q70, Q71, Q72, Q73, compact, selB, Q74, Q75, Q76, Q77, callK, evS, Q78, Q79, ofVal, ofVals, scalar, aop, ares, mkRes, V.rn, V.rns, Q80, V.cells?, cellsAt, Go.Ai.part, aload, astore, setL, V.atom, abin, aun, intBin, shiftBin, aconv, fieldOf, aindexAddr, aindex, bound?, aslice, aarr, abuild, afill, alen, nilP, nilS, nilF, aeq, eqCells, eqCell, Go.Ai.known, strBin, abuiltin, aappend, abuildSlice, arowsFill, amakeSlice, acopy, minmax, rowsOf, numsT, notStr, isIntD, isByte, Q81, Q82, Q83, Q84, Q85, V.pz, V.pzs, T.toV, frz1, frz, scalT, scalTs, chunkT, Q86, Q87, Q88, Q89, Q90, Q91, Q92, Q93, Q94, List.range, List.range.loop, Q95, Q96, Q97, Q98, Q99, Q100, Q101, Q102, Q103, Q104, Q105, Q106, Q107, Q108, Q109, Q110, Q111, Q112, Q113, Q114, Q115, Q116, Q117, Q118, Q119, Q120, Q121, Q122, Q123, Q124, Q125, Q126, Q127, Q128, Q129, Q130, Int.reduceTDiv, Int.reduceTMod, Int.reduceFDiv, UInt8.reduceToNat, Nat.reduceAdd, Nat.reduceMul, Nat.reduceSub, Nat.reduceEqDiff, Nat.reduceLT, Nat.reduceLeDiff, Nat.reducePow, Nat.reduceDiv, Nat.reduceMod, Q131, Q132, Q133, Q134, Q135, Q136, Int.reduceLT, Int.reduceLE, Int.reduceAdd, Int.reduceMul, Int.reduceSub, Int.reduceNeg, Int.reduceToNat, Int.reducePow, Int.reduceEq, Q137, Q138, Q139, Q140, Q141, Q142, Q143, Q144, Q145, Q146, Q147, Q148, Q149, Q150, ↓reduceIte, ite_true, ite_false, if_true, if_false, Q151, Q152, Q153, Q154, Q155, Q156, Q157, Q158, Q159, Q160, Q161, ne_eq, Q162, Q163, Q164, Q165, Q166, Q167, Q168, Q169, Q170, Q171, Q172, Q173, Q174, Q175, reduceCtorEq, Q176, Q177, Int.reduceBEq, Int.reduceBNe, Nat.reduceBEq, Nat.reduceBNe, implies_true, forall_const, Q178, Q179, eq_self, Q180, reduceDIte, Q181, Q182, Q183, Q184, IntKind.bits, Q185, Q186, Q187, Q188, Q189, kPostKF_ret, kPostKF_normal, kPostX_ret, kPostX_normal, bsl, hwq, u3, a3, c3, b3, z3, k3, u4, a4, c4, b4, z4, k4, u5, a5, c5, b5, z5, k5, u23, a23, c23, b23, z23, k23, u24, a24, c24, b24, z24, k24, u31, a31, c31, b31, z31, k31, l31, u42, a42, c42, b42, z42, k42, l42, u58, a58, c58, b58, z58, k58, u60, a60, c60, b60, z60, k60, u66, a66, c66, b66, z66, k66, u69, a69, c69, b69, z69, k69, l69, grn, gmt] | (refine awpL_loop 18 ?_; have hwq := trivial) | (refine condK_split ?_ ?_ <;> intro hwq) | (refine guardK_split ?_ ?_ <;> intro hwq) | (refine guardE_split ?_ ?_ <;> intro hwq) | (refine awp_drawW [20, 15, 22, 23, 10] (by decide +kernel) ?_; have hwq := trivial) | (refine call_at [0, 1] n25 (by simp) (by decide) rfl rfl (by simp [gmt, mapT_box, V.mapTs, V.mapT, pl]) (V.les_refl _) ?_; have hwq := trivial) | (refine call_plain n24 rfl rfl ?_; have hwq := trivial) | (refine call_plain n24' rfl rfl ?_; have hwq := trivial) | (refine call_plain k1 rfl rfl ?_; have hwq := trivial) | (refine call_plain k2 rfl rfl ?_; have hwq := trivial) | fail))
      · have hy' : (y != 1) = true := by simp [hy]
        subst hx
        (have hwq := trivial; repeat' (first | simp (config := { maxSteps := 10000000, implicitDefEqProofs := false }) only [Q0, V.noimm, V.noimms, frzZs, frzZ, frzA, frzV, frzVs, frzBox, boxLen, Q1, Option.isSome, Q2, Q3, Q4, Q5, Q6, Q7, cond_true, cond_false, Q8, Q9, aopD, calW, flatV, Q10, Q11, stepX, amap, stepY, alookup, afind, aupdate, adelete, amlen, arange, ameq, mapOf, akeq, Q12, Q13, pl, Q14, Q15, Q16, Q17, V.mapT, V.mapTs, Q18, Option.bind, Q19, Q20, Q21, Q22, Q23, Q24, Q25, Q26, Q27, Q28, Q29, Q30, stepK, runK, Q31, Q32, Q33, Q34, Q35, Q36, guardD, Q37, Q38, Q39, Q40, Q41, stepE, runD, callD, Q42, Q43, Q44, Q45, Q46, Q47, Q48, Q49, Q50, Q51, Q52, Q53, Q54, Q55, Q56, Q57, Q58, Q59, Q60, Q61, Q62, Q63, Q64, Q65, Q66, Q67, Q68, Q69, Q70, Q71, Q72, Q73, compact, selB, Q74, Q75, Q76, Q77, callK, evS, Q78, Q79, ofVal, ofVals, scalar, aop, ares, mkRes, V.rn, V.rns, Q80, V.cells?, cellsAt, Go.Ai.part, aload, astore, setL, V.atom, abin, aun, intBin, shiftBin, aconv, fieldOf, aindexAddr, aindex, bound?, aslice, aarr, abuild, afill, alen, nilP, nilS, nilF, aeq, eqCells, eqCell, Go.Ai.known, strBin, abuiltin, aappend, abuildSlice, arowsFill, amakeSlice, acopy, minmax, rowsOf, numsT, notStr, isIntD, isByte, Q81, Q82, Q83, Q84, Q85, V.pz, V.pzs, T.toV, frz1, frz, scalT, scalTs, chunkT, Q86, Q87, Q88, Q89, Q90, Q91, Q92, Q93, Q94, List.range, List.range.loop, Q95, Q96, Q97, Q98, Q99, Q100, Q101, Q102, Q103, Q104, Q105, Q106, Q107, Q108, Q109, Q110, Q111, Q112, Q113, Q114, Q115, Q116, Q117, Q118, Q119, Q120, Q121, Q122, Q123, Q124, Q125, Q126, Q127, Q128, Q129, Q130, Int.reduceTDiv, Int.reduceTMod, Int.reduceFDiv, UInt8.reduceToNat, Nat.reduceAdd, Nat.reduceMul, Nat.reduceSub, Nat.reduceEqDiff, Nat.reduceLT, Nat.reduceLeDiff, Nat.reducePow, Nat.reduceDiv, Nat.reduceMod, Q131, Q132, Q133, Q134, Q135, Q136, Int.reduceLT, Int.reduceLE, Int.reduceAdd, Int.reduceMul, Int.reduceSub, Int.reduceNeg, Int.reduceToNat, Int.reducePow, Int.reduceEq, Q137, Q138, Q139, Q140, Q141, Q142, Q143, Q144, Q145, Q146, Q147, Q148, Q149, Q150, ↓reduceIte, ite_true, ite_false, if_true, if_false, Q151, Q152, Q153, Q154, Q155, Q156, Q157, Q158, Q159, Q160, Q161, ne_eq, Q162, Q163, Q164, Q165, Q166, Q167, Q168, Q169, Q170, Q171, Q172, Q173, Q174, Q175, reduceCtorEq, Q176, Q177, Int.reduceBEq, Int.reduceBNe, Nat.reduceBEq, Nat.reduceBNe, implies_true, forall_const, Q178, Q179, eq_self, Q180, reduceDIte, Q181, Q182, Q183, Q184, IntKind.bits, Q185, Q186, Q187, Q188, Q189, kPostKF_ret, kPostKF_normal, kPostX_ret, kPostX_normal, bsl, hwq, u3, a3, c3, b3, z3, k3, u4, a4, c4, b4, z4, k4, u5, a5, c5, b5, z5, k5, u23, a23, c23, b23, z23, k23, u24, a24, c24, b24, z24, k24, u31, a31, c31, b31, z31, k31, l31, u42, a42, c42, b42, z42, k42, l42, u58, a58, c58, b58, z58, k58, u60, a60, c60, b60, z60, k60, u66, a66, c66, b66, z66, k66, u69, a69, c69, b69, z69, k69, l69, grn, gmt, hy'] | (refine awpL_loop 18 ?_; have hwq := trivial) | (refine condK_split ?_ ?_ <;> intro hwq) | (refine guardK_split ?_ ?_ <;> intro hwq) | (refine guardE_split ?_ ?_ <;> intro hwq) | (refine awp_drawW [20, 15, 22, 23, 10] (by decide +kernel) ?_; have hwq := trivial) | (refine call_at [0, 1] n25 (by simp) (by decide) rfl rfl (by simp [gmt, mapT_box, V.mapTs, V.mapT, pl]) (V.les_refl _) ?_; have hwq := trivial) | (refine call_plain n24 rfl rfl ?_; have hwq := trivial) | (refine call_plain k1 rfl rfl ?_; have hwq := trivial) | (refine call_plain k2 rfl rfl ?_; have hwq := trivial) | fail))
    · have hx' : (x != 1) = true := by simp [hx]
      (have hwq := trivial; repeat' (first | simp (config := { maxSteps := 10000000, implicitDefEqProofs := false }) only [Q0, V.noimm, V.noimms, frzZs, frzZ, frzA, frzV, frzVs, frzBox, boxLen, Q1, Option.isSome, Q2, Q3, Q4, Q5, Q6, Q7, cond_true, cond_false, Q8, Q9, aopD, calW, flatV, Q10, Q11, stepX, amap, stepY, alookup, afind, aupdate, adelete, amlen, arange, ameq, mapOf, akeq, Q12, Q13, pl, Q14, Q15, Q16, Q17, V.mapT, V.mapTs, Q18, Option.bind, Q19, Q20, Q21, Q22, Q23, Q24, Q25, Q26, Q27, Q28, Q29, Q30, stepK, runK, Q31, Q32, Q33, Q34, Q35, Q36, guardD, Q37, Q38, Q39, Q40, Q41, stepE, runD, callD, Q42, Q43, Q44, Q45, Q46, Q47, Q48, Q49, Q50, Q51, Q52, Q53, Q54, Q55, Q56, Q57, Q58, Q59, Q60, Q61, Q62, Q63, Q64, Q65, Q66, Q67, Q68, Q69, Q70, Q71, Q72, Q73, compact, selB, Q74, Q75, Q76, Q77, callK, evS, Q78, Q79, ofVal, ofVals, scalar, aop, ares, mkRes, V.rn, V.rns, Q80, V.cells?, cellsAt, Go.Ai.part, aload, astore, setL, V.atom, abin, aun, intBin, shiftBin, aconv, fieldOf, aindexAddr, aindex, bound?, aslice, aarr, abuild, afill, alen, nilP, nilS, nilF, aeq, eqCells, eqCell, Go.Ai.known, strBin, abuiltin, aappend, abuildSlice, arowsFill, amakeSlice, acopy, minmax, rowsOf, numsT, notStr, isIntD, isByte, Q81, Q82, Q83, Q84, Q85, V.pz, V.pzs, T.toV, frz1, frz, scalT, scalTs, chunkT, Q86, Q87, Q88, Q89, Q90, Q91, Q92, Q93, Q94, List.range, List.range.loop, Q95, Q96, Q97, Q98, Q99, Q100, Q101, Q102, Q103, Q104, Q105, Q106, Q107, Q108, Q109, Q110, Q111, Q112, Q113, Q114, Q115, Q116, Q117, Q118, Q119, Q120, Q121, Q122, Q123, Q124, Q125, Q126, Q127, Q128, Q129, Q130, Int.reduceTDiv, Int.reduceTMod, Int.reduceFDiv, UInt8.reduceToNat, Nat.reduceAdd, Nat.reduceMul, Nat.reduceSub, Nat.reduceEqDiff, Nat.reduceLT, Nat.reduceLeDiff, Nat.reducePow, Nat.reduceDiv, Nat.reduceMod, Q131, Q132, Q133, Q134, Q135, Q136, Int.reduceLT, Int.reduceLE, Int.reduceAdd, Int.reduceMul, Int.reduceSub, Int.reduceNeg, Int.reduceToNat, Int.reducePow, Int.reduceEq, Q137, Q138, Q139, Q140, Q141, Q142, Q143, Q144, Q145, Q146, Q147, Q148, Q149, Q150, ↓reduceIte, ite_true, ite_false, if_true, if_false, Q151, Q152, Q153, Q154, Q155, Q156, Q157, Q158, Q159, Q160, Q161, ne_eq, Q162, Q163, Q164, Q165, Q166, Q167, Q168, Q169, Q170, Q171, Q172, Q173, Q174, Q175, reduceCtorEq, Q176, Q177, Int.reduceBEq, Int.reduceBNe, Nat.reduceBEq, Nat.reduceBNe, implies_true, forall_const, Q178, Q179, eq_self, Q180, reduceDIte, Q181, Q182, Q183, Q184, IntKind.bits, Q185, Q186, Q187, Q188, Q189, kPostKF_ret, kPostKF_normal, kPostX_ret, kPostX_normal, bsl, hwq, u3, a3, c3, b3, z3, k3, u4, a4, c4, b4, z4, k4, u5, a5, c5, b5, z5, k5, u23, a23, c23, b23, z23, k23, u24, a24, c24, b24, z24, k24, u31, a31, c31, b31, z31, k31, l31, u42, a42, c42, b42, z42, k42, l42, u58, a58, c58, b58, z58, k58, u60, a60, c60, b60, z60, k60, u66, a66, c66, b66, z66, k66, u69, a69, c69, b69, z69, k69, l69, grn, gmt, hx'] | (refine awpL_loop 18 ?_; have hwq := trivial) | (refine condK_split ?_ ?_ <;> intro hwq) | (refine guardK_split ?_ ?_ <;> intro hwq) | (refine guardE_split ?_ ?_ <;> intro hwq) | (refine awp_drawW [20, 15, 22, 23, 10] (by decide +kernel) ?_; have hwq := trivial) | (refine call_at [0, 1] n25 (by simp) (by decide) rfl rfl (by simp [gmt, mapT_box, V.mapTs, V.mapT, pl]) (V.les_refl _) ?_; have hwq := trivial) | (refine call_plain n24 rfl rfl ?_; have hwq := trivial) | (refine call_plain k1 rfl rfl ?_; have hwq := trivial) | fail))
  · rw [decide_eq_false hi] at n24
    (have hwq := trivial; repeat' (first | simp (config := { maxSteps := 10000000, implicitDefEqProofs := false }) only [Q0, V.noimm, V.noimms, frzZs, frzZ, frzA, frzV, frzVs, frzBox, boxLen, Q1, Option.isSome, Q2, Q3, Q4, Q5, Q6, Q7, cond_true, cond_false, Q8, Q9, aopD, calW, flatV, Q10, Q11, stepX, amap, stepY, alookup, afind, aupdate, adelete, amlen, arange, ameq, mapOf, akeq, Q12, Q13, pl, Q14, Q15, Q16, Q17, V.mapT, V.mapTs, Q18, Option.bind, Q19, Q20, Q21, Q22, Q23, Q24, Q25, Q26, Q27, Q28, Q29, Q30, stepK, runK, Q31, Q32, Q33, Q34, Q35, Q36, guardD, Q37, Q38, Q39, Q40, Q41, stepE, runD, callD, Q42, Q43, Q44, Q45, Q46, Q47, Q48, Q49, Q50, Q51, Q52, Q53, Q54, Q55, Q56, Q57, Q58, Q59, Q60, Q61, Q62, Q63, Q64, Q65, Q66, Q67, Q68, Q69, Q70, Q71, Q72, Q73, compact, selB, Q74, Q75, Q76, Q77, callK, evS, Q78, Q79, ofVal, ofVals, scalar, aop, ares, mkRes, V.rn, V.rns, Q80, V.cells?, cellsAt, Go.Ai.part, aload, astore, setL, V.atom, abin, aun, intBin, shiftBin, aconv, fieldOf, aindexAddr, aindex, bound?, aslice, aarr, abuild, afill, alen, nilP, nilS, nilF, aeq, eqCells, eqCell, Go.Ai.known, strBin, abuiltin, aappend, abuildSlice, arowsFill, amakeSlice, acopy, minmax, rowsOf, numsT, notStr, isIntD, isByte, Q81, Q82, Q83, Q84, Q85, V.pz, V.pzs, T.toV, frz1, frz, scalT, scalTs, chunkT, Q86, Q87, Q88, Q89, Q90, Q91, Q92, Q93, Q94, List.range, List.range.loop, Q95, Q96, Q97, Q98, Q99, Q100, Q101, Q102, Q103, Q104, Q105, Q106, Q107, Q108, Q109, Q110, Q111, Q112, Q113, Q114, Q115, Q116, Q117, Q118, Q119, Q120, Q121, Q122, Q123, Q124, Q125, Q126, Q127, Q128, Q129, Q130, Int.reduceTDiv, Int.reduceTMod, Int.reduceFDiv, UInt8.reduceToNat, Nat.reduceAdd, Nat.reduceMul, Nat.reduceSub, Nat.reduceEqDiff, Nat.reduceLT, Nat.reduceLeDiff, Nat.reducePow, Nat.reduceDiv, Nat.reduceMod, Q131, Q132, Q133, Q134, Q135, Q136, Int.reduceLT, Int.reduceLE, Int.reduceAdd, Int.reduceMul, Int.reduceSub, Int.reduceNeg, Int.reduceToNat, Int.reducePow, Int.reduceEq, Q137, Q138, Q139, Q140, Q141, Q142, Q143, Q144, Q145, Q146, Q147, Q148, Q149, Q150, ↓reduceIte, ite_true, ite_false, if_true, if_false, Q151, Q152, Q153, Q154, Q155, Q156, Q157, Q158, Q159, Q160, Q161, ne_eq, Q162, Q163, Q164, Q165, Q166, Q167, Q168, Q169, Q170, Q171, Q172, Q173, Q174, Q175, reduceCtorEq, Q176, Q177, Int.reduceBEq, Int.reduceBNe, Nat.reduceBEq, Nat.reduceBNe, implies_true, forall_const, Q178, Q179, eq_self, Q180, reduceDIte, Q181, Q182, Q183, Q184, IntKind.bits, Q185, Q186, Q187, Q188, Q189, kPostKF_ret, kPostKF_normal, kPostX_ret, kPostX_normal, bsl, hwq, u3, a3, c3, b3, z3, k3, u4, a4, c4, b4, z4, k4, u5, a5, c5, b5, z5, k5, u23, a23, c23, b23, z23, k23, u24, a24, c24, b24, z24, k24, u31, a31, c31, b31, z31, k31, l31, u42, a42, c42, b42, z42, k42, l42, u58, a58, c58, b58, z58, k58, u60, a60, c60, b60, z60, k60, u66, a66, c66, b66, z66, k66, u69, a69, c69, b69, z69, k69, l69, grn, gmt] | (refine awpL_loop 18 ?_; have hwq := trivial) | (refine condK_split ?_ ?_ <;> intro hwq) | (refine guardK_split ?_ ?_ <;> intro hwq) | (refine guardE_split ?_ ?_ <;> intro hwq) | (refine awp_drawW [20, 15, 22, 23, 10] (by decide +kernel) ?_; have hwq := trivial) | (refine call_at [0, 1] n25 (by simp) (by decide) rfl rfl (by simp [gmt, mapT_box, V.mapTs, V.mapT, pl]) (V.les_refl _) ?_; have hwq := trivial) | (refine call_plain n24 rfl rfl ?_; have hwq := trivial) | fail))
end Go.Ai
