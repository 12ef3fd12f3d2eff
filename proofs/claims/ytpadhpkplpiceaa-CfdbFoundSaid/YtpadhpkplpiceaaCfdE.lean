/- Contracts of functions of the loaded program: called with data in the ranges that each names, it returns this value and writes to no old memory. -/
import Derived.Test.YtpadhpkplpiceaaCfdD
set_option linter.unusedVariables false
set_option linter.unusedSimpArgs false
set_option maxHeartbeats 4000000
set_option maxRecDepth 100000
namespace Go.Ai
open Go.Proofs

/-- An entry: whose station, when it was learned, when it was laid. -/
structure En where
  n : Int
  seen : Int
  born : Nat
abbrev vK (j n q s : Int) : V := .agg [.s (.int .i64 j), .s (.int .u8 2), .s (.int .u8 0), .s (.int .u8 0), .s (.int .u8 0), .s (.int .u8 (n / 256)), .s (.int .u8 (n % 256)), .s (.int .u8 2), .s (.int .u8 0), .s (.int .u8 0), .s (.int .u8 0), .s (.int .u8 (q / 256)), .s (.int .u8 (q % 256)), .s (.int .i64 s)]
def enc (j q : Int) (L : List En) : List (V × V × Nat) := L.map fun e => (kS j e.n, vK j e.n q e.seen, e.born)
def inR (n : Int) : Prop := 0 ≤ n ∧ n < 65536
structure Good (L : List En) (c : Nat) : Prop where
  rng : ∀ e ∈ L, inR e.n
  nod : (L.map (·.n)).Nodup
  bnd : (L.map (·.born)).Nodup
  lt : ∀ e ∈ L, e.born < c

theorem enc_flat (j q : Int) (L : List En) : flatE (enc j q L) = true := by
  simp [flatE, enc, flatS]
theorem keq (j n m : Int) (h0 : inR n) (h1 : inR m) : akeq Try.prog 69 (kS j n) (kS j m) = some (n == m) := by
  obtain ⟨h0, h0'⟩ := h0
  obtain ⟨h1, h1'⟩ := h1
  have e : (n / 256 == m / 256 && n % 256 == m % 256) = (n == m) := by
    rw [Bool.eq_iff_iff]
    simp only [Bool.and_eq_true, beq_iff_eq]
    omega
  simp [akeq, a69, l69, eqCells, eqCell, e]
theorem find_enc (j q n : Int) (h0 : inR n) : ∀ (L : List En), (∀ e ∈ L, inR e.n) → afind Try.prog 69 (kS j n) (enc j q L) = some (L.findIdx? (fun e => n == e.n))
  | [], _ => rfl
  | e :: L, h => by
    have ih := find_enc j q n h0 L (fun e he => h e (by simp [he]))
    simp only [enc] at ih
    simp only [enc, List.map_cons, afind, keq j n e.n h0 (h e (by simp)), ih, Option.map_some, List.findIdx?_cons]
theorem findIdx_of {L : List En} (h : (L.map (·.n)).Nodup) {i : Nat} {e : En} (he : L[i]? = some e) : L.findIdx? (fun x => e.n == x.n) = some i := by
  induction L generalizing i with
  | nil => simp at he
  | cons x L ih =>
    rw [List.findIdx?_cons]
    cases i with
    | zero => simp at he; subst he; simp
    | succ i =>
      simp at he
      simp only [List.map_cons, List.nodup_cons] at h
      have hne : ¬ (e.n = x.n) := fun hh => h.1 (hh ▸ List.mem_map.2 ⟨e, List.mem_of_getElem? he, rfl⟩)
      simp [hne, ih h.2 he]
theorem find_born {L : List En} (j q : Int) (h : (L.map (·.born)).Nodup) {e : En} (he : e ∈ L) : (enc j q L).find? (fun x => x.2.2 == e.born) = some (kS j e.n, vK j e.n q e.seen, e.born) := by
  induction L with
  | nil => simp at he
  | cons x L ih =>
    simp only [List.map_cons, List.nodup_cons] at h
    simp only [enc, List.map_cons, List.find?_cons]
    rcases List.mem_cons.1 he with rfl | he
    · simp
    · have hne : ¬ (x.born = e.born) := fun hh => h.1 (hh ▸ List.mem_map.2 ⟨e, he, rfl⟩)
      simp only [beq_iff_eq, hne, Bool.false_eq_true, beq_eq_false_iff_ne.2 hne]
      exact ih h.2 he
theorem enc_get (j q : Int) {L : List En} {i : Nat} {e : En} (he : L[i]? = some e) : (enc j q L)[i]? = some (kS j e.n, vK j e.n q e.seen, e.born) := by simp [enc, he]

/-- The evicting loop's head. -/
def EvI (r a j q : Int) (L : List En) (c : Nat) (k : Nat) (S : St) : Prop :=
  ∃ (mv seen : List Nat) (last : Nat) (old : List V) (first : Bool), S = ⟨tms [(0, .ptr 0 0 0), (2, .ptr 2 0 0), (3, vB first), (10, .ptr 3 0 0)], [.box [vI r, vI a, .mref 1] false, .mp (enc j q L) c, .box old false, .it (some 1) c seen last], mv⟩ ∧
    (∀ t ∈ mv, 2 ≤ t) ∧ c ≤ last ∧ k = (L.filter fun e => decide (e.born ∉ seen)).length ∧
    ((first = true ∧ seen = [] ∧ ∃ v, old = [vI v, .s (.int .u8 0), .s (.int .u8 0), .s (.int .u8 0), .s (.int .u8 0), .s (.int .u8 0), .s (.int .u8 0)]) ∨
     (first = false ∧ ∃ (i0 : Nat) (e0 : En), L[i0]? = some e0 ∧ e0.born ∈ seen ∧ (∀ e ∈ L, e.born ∈ seen → e0.seen ≤ e.seen) ∧ old = [vI j, .s (.int .u8 2), .s (.int .u8 0), .s (.int .u8 0), .s (.int .u8 0), .s (.int .u8 (e0.n / 256)), .s (.int .u8 (e0.n % 256))]))

theorem enc_mem {j q : Int} {L : List En} {e : V × V × Nat} (h : e ∈ enc j q L) : ∃ x ∈ L, e = (kS j x.n, vK j x.n q x.seen, x.born) := by
  simp only [enc, List.mem_map] at h
  obtain ⟨x, h1, h2⟩ := h
  exact ⟨x, h1, h2.symm⟩
theorem enc_lt {j q : Int} {L : List En} {c : Nat} (h : Good L c) : ∀ e ∈ enc j q L, e.2.2 < c := by
  intro e he
  obtain ⟨x, hx, rfl⟩ := enc_mem he
  exact h.lt x hx
theorem enc_erase (j q : Int) (L : List En) (i : Nat) : (enc j q L).eraseIdx i = enc j q (L.eraseIdx i) := by
  unfold enc
  induction L generalizing i with
  | nil => rfl
  | cons x L ih => cases i with
    | zero => rfl
    | succ i => simp [ih]
theorem born_inj {L : List En} (h : (L.map (·.born)).Nodup) {x y : En} (hx : x ∈ L) (hy : y ∈ L) (e : x.born = y.born) : x = y := by
  induction L with
  | nil => simp at hx
  | cons z L ih =>
    simp only [List.map_cons, List.nodup_cons] at h
    rcases List.mem_cons.1 hx with hx' | hx' <;> rcases List.mem_cons.1 hy with hy' | hy'
    · rw [hx', hy']
    · exact (h.1 (List.mem_map.2 ⟨y, hy', by rw [← e, hx']⟩)).elim
    · exact (h.1 (List.mem_map.2 ⟨x, hx', by rw [e, hy']⟩)).elim
    · exact ih h.2 hx' hy'
theorem meas {L : List En} {seen : List Nat} {x : En} (hx : x ∈ L) (hn : x.born ∉ seen) : (L.filter fun e => decide (e.born ∉ seen ++ [x.born])).length < (L.filter fun e => decide (e.born ∉ seen)).length := by
  induction L with
  | nil => simp at hx
  | cons y L ih =>
    have hle : (L.filter fun e => decide (e.born ∉ seen ++ [x.born])).length ≤ (L.filter fun e => decide (e.born ∉ seen)).length := by
      clear ih hx
      induction L with
      | nil => simp
      | cons z L ih =>
        simp only [List.filter_cons]
        by_cases h1 : z.born ∈ seen
        · simp [h1] at ih ⊢; exact ih
        · by_cases h2 : z.born = x.born
          · simp [h1, h2, hn] at ih ⊢; omega
          · simp [h1, h2] at ih ⊢; exact ih
    simp only [List.filter_cons]
    rcases List.mem_cons.1 hx with rfl | hx
    · simp [hn] at hle ⊢; omega
    · have := ih hx
      by_cases h1 : y.born ∈ seen
      · simp [h1] at this ⊢; exact this
      · by_cases h2 : y.born = x.born
        · simp [h1, h2, hn] at hle ⊢; omega
        · simp [h1, h2] at this ⊢; exact this

theorem bc27 (r a j q : Int) (L : List En) (c : Nat) (hL : Good L c) (i0 : Nat) (e0 : En) (h0 : L[i0]? = some e0) (hmin : ∀ e ∈ L, e.n ≠ e0.n → e0.seen < e.seen) :
    AC Try.prog 27 [.ptr 0 0 0] (hB r a (enc j q L) c) (eqS (.tuple []) (hB r a (enc j q (L.eraseIdx i0)) c)) := by
  have hrn1 := rn_mp (enc_flat j q L)
  have hrn2 := rn_mp (enc_flat j q (L.eraseIdx i0))
  refine AC_heap orders [0, 1] Try.func27 rfl (by kernel_rfl) (by kernel_rfl) Try.ntmps27 (by simp) ?_
  unfold Try.f27
  simp (config := { maxSteps := 10000000, implicitDefEqProofs := false }) only [Q0, V.noimm, V.noimms, frzZs, frzZ, frzA, frzV, frzVs, frzBox, boxLen, Q1, Option.isSome, Q2, Q3, Q4, Q5, Q6, Q7, cond_true, cond_false, Q8, Q9, aopD, calW, flatV, Q10, Q11, stepX, amap, stepY, alookup, afind, aupdate, adelete, amlen, arange, ameq, mapOf, akeq, Q12, Q13, pl, Q14, Q15, Q16, Q17, V.mapT, V.mapTs, Q18, Option.bind, Q19, Q20, Q21, Q22, Q23, Q24, Q25, Q26, Q27, Q28, Q29, Q30, stepK, runK, Q31, Q32, Q33, Q34, Q35, Q36, guardD, Q37, Q38, Q39, Q40, Q41, stepE, runD, callD, Q42, Q43, Q44, Q45, Q46, Q47, Q48, Q49, Q50, Q51, Q52, Q53, Q54, Q55, Q56, Q57, Q58, Q59, Q60, Q61, Q62, Q63, Q64, Q65, Q66, Q67, Q68, Q69, Q70, Q71, Q72, Q73, compact, selB, Q74, Q75, Q76, Q77, callK, evS, Q78, Q79, ofVal, ofVals, scalar, aop, ares, mkRes, V.rn, V.rns, Q80, V.cells?, cellsAt, Go.Ai.part, aload, astore, setL, V.atom, abin, aun, intBin, shiftBin, aconv, fieldOf, aindexAddr, aindex, bound?, aslice, aarr, abuild, afill, alen, nilP, nilS, nilF, aeq, eqCells, eqCell, Go.Ai.known, strBin, abuiltin, aappend, abuildSlice, arowsFill, amakeSlice, acopy, minmax, rowsOf, numsT, notStr, isIntD, isByte, Q81, Q82, Q83, Q84, Q85, V.pz, V.pzs, T.toV, frz1, frz, scalT, scalTs, chunkT, Q86, Q87, Q88, Q89, Q90, Q91, Q92, Q93, Q94, List.range, List.range.loop, Q95, Q96, Q97, Q98, Q99, Q100, Q101, Q102, Q103, Q104, Q105, Q106, Q107, Q108, Q109, Q110, Q111, Q112, Q113, Q114, Q115, Q116, Q117, Q118, Q119, Q120, Q121, Q122, Q123, Q124, Q125, Q126, Q127, Q128, Q129, Q130, Int.reduceTDiv, Int.reduceTMod, Int.reduceFDiv, UInt8.reduceToNat, Nat.reduceAdd, Nat.reduceMul, Nat.reduceSub, Nat.reduceEqDiff, Nat.reduceLT, Nat.reduceLeDiff, Nat.reducePow, Nat.reduceDiv, Nat.reduceMod, Q131, Q132, Q133, Q134, Q135, Q136, Int.reduceLT, Int.reduceLE, Int.reduceAdd, Int.reduceMul, Int.reduceSub, Int.reduceNeg, Int.reduceToNat, Int.reducePow, Int.reduceEq, Q137, Q138, Q139, Q140, Q141, Q142, Q143, Q144, Q145, Q146, Q147, Q148, Q149, Q150, ↓reduceIte, ite_true, ite_false, if_true, if_false, Q151, Q152, Q153, Q154, Q155, Q156, Q157, Q158, Q159, Q160, Q161, ne_eq, Q162, Q163, Q164, Q165, Q166, Q167, Q168, Q169, Q170, Q171, Q172, Q173, Q174, Q175, reduceCtorEq, Q176, Q177, Int.reduceBEq, Int.reduceBNe, Nat.reduceBEq, Nat.reduceBNe, implies_true, forall_const, Q178, Q179, eq_self, Q180, reduceDIte, Q181, Q182, Q183, Q184, IntKind.bits, Q185, Q186, Q187, Q188, Q189, kPostKF_ret, kPostKF_normal, kPostX_ret, kPostX_normal, bsl, u3, a3, c3, b3, z3, k3, u5, a5, c5, b5, z5, k5, u23, a23, c23, b23, z23, k23, u28, a28, c28, b28, z28, k28, u31, a31, c31, b31, z31, k31, l31, u42, a42, c42, b42, z42, k42, l42, u58, a58, c58, b58, z58, k58, u60, a60, c60, b60, z60, k60, u69, a69, c69, b69, z69, k69, l69]
  refine awp_loopK (EvI r a j q L c) (L.filter fun e => decide (e.born ∉ ([] : List Nat))).length ⟨tms [(0, .ptr 0 0 0), (2, .ptr 2 0 0), (3, vB true), (10, .ptr 3 0 0)], _, []⟩ (Weak.tms (by simp [tms])) ⟨[], [], c, _, true, rfl, by simp, Nat.le_refl _, rfl, .inl ⟨rfl, rfl, _, rfl⟩⟩ ?_
  rintro k S ⟨mv, seen, last, old, first, rfl, hmv, hcl, rfl, hst⟩
  have hfmv : mv.filter (fun x => decide (x < 2)) = [] := by
    rw [List.filter_eq_nil_iff]
    intro t ht
    have := hmv t ht
    simp
    omega
  have back : ∀ (x : En) (first : Bool) (old : List V) (tm : Nat → V) (τ : List Blk), x ∈ L → x.born ∉ seen → tm 0 = .ptr 0 0 0 → tm 2 = .ptr 2 0 0 → tm 3 = vB first → tm 10 = .ptr 3 0 0 → V.rns (keepF (List.range 4)) old = some old →
      ((first = false ∧ ∃ (i0 : Nat) (e0 : En), L[i0]? = some e0 ∧ e0.born ∈ seen ++ [x.born] ∧ (∀ e ∈ L, e.born ∈ seen ++ [x.born] → e0.seen ≤ e.seen) ∧ old = [vI j, .s (.int .u8 2), .s (.int .u8 0), .s (.int .u8 0), .s (.int .u8 0), .s (.int .u8 (e0.n / 256)), .s (.int .u8 (e0.n % 256))])) →
      ∃ m S1, m < (L.filter fun e => decide (e.born ∉ seen)).length ∧ Weak ⟨tm, [.box [vI r, vI a, .mref 1] false, .mp (enc j q L) c, .box old false, .it (some 1) c (seen ++ [x.born]) c] ++ τ, mv⟩ S1 ∧ EvI r a j q L c m S1 := by
    intro x first old tm τ hx hn t0 t2 t3 t10 hold hfin
    refine ⟨_, ⟨tms [(0, .ptr 0 0 0), (2, .ptr 2 0 0), (3, vB first), (10, .ptr 3 0 0)], [.box [vI r, vI a, .mref 1] false, .mp (enc j q L) c, .box old false, .it (some 1) c (seen ++ [x.born]) c], mv ++ List.range' 4 τ.length⟩, meas hx hn, ?_, ⟨_, _, _, _, _, rfl, ?_, Nat.le_refl _, rfl, .inr hfin⟩⟩
    rotate_left
    · intro t ht
      rcases List.mem_append.1 ht with h | h
      · exact hmv t h
      · have := (List.mem_range'_1.1 h).1; omega
    refine Weak.cut 4 ?_ ?_ (fun t ht => by simp [ht]) (fun t h1 h2 => List.mem_append_right _ (List.mem_range'_1.2 ⟨h1, by simp at h2; omega⟩))
    · intro p hp
      simp only [List.mem_cons, List.not_mem_nil, or_false] at hp
      rcases hp with rfl | rfl | rfl | rfl
      · simp [t0, V.rn, keepF]; decide
      · simp [t2, V.rn, keepF]; decide
      · simp [t3, V.rn]
      · simp [t10, V.rn, keepF]; decide
    · have e1 : V.rns (keepF (List.range 4)) [vI r, vI a, .mref 1] = some [vI r, vI a, .mref 1] := by simp [V.rns, V.rn, keepF]; decide
      have e2 : Blk.rn (keepF (List.range 4)) (.it (some 1) c (seen ++ [x.born]) c) = some (.it (some 1) c (seen ++ [x.born]) c) := by
        have : keepF (List.range 4) 1 = some 1 := by decide
        simp [Blk.rn, this]
      simp only [List.cons_append, List.nil_append, List.range, List.range.loop, selB, List.getElem?_cons_zero, List.getElem?_cons_succ, Option.bind_some, rn_box, hrn1]
      simp only [List.range, List.range.loop] at e1 e2 hold
      simp only [e1, e2, hold, Option.map_some]
  rcases hst with ⟨rfl, rfl, v, rfl⟩ | ⟨rfl, i1, e1, hg1, hb1, hm1, rfl⟩
  · simp (config := { maxSteps := 10000000, implicitDefEqProofs := false }) only [Q0, V.noimm, V.noimms, frzZs, frzZ, frzA, frzV, frzVs, frzBox, boxLen, Q1, Option.isSome, Q2, Q3, Q4, Q5, Q6, Q7, cond_true, cond_false, Q8, Q9, aopD, calW, flatV, Q10, Q11, stepX, amap, stepY, alookup, afind, aupdate, adelete, amlen, arange, ameq, mapOf, akeq, Q12, Q13, pl, Q14, Q15, Q16, Q17, V.mapT, V.mapTs, Q18, Option.bind, Q19, Q20, Q21, Q22, Q23, Q24, Q25, Q26, Q27, Q28, Q29, Q30, stepK, runK, Q31, Q32, Q33, Q34, Q35, Q36, guardD, Q37, Q38, Q39, Q40, Q41, stepE, runD, callD, Q42, Q43, Q44, Q45, Q46, Q47, Q48, Q49, Q50, Q51, Q52, Q53, Q54, Q55, Q56, Q57, Q58, Q59, Q60, Q61, Q62, Q63, Q64, Q65, Q66, Q67, Q68, Q69, Q70, Q71, Q72, Q73, compact, selB, Q74, Q75, Q76, Q77, callK, evS, Q78, Q79, ofVal, ofVals, scalar, aop, ares, mkRes, V.rn, V.rns, Q80, V.cells?, cellsAt, Go.Ai.part, aload, astore, setL, V.atom, abin, aun, intBin, shiftBin, aconv, fieldOf, aindexAddr, aindex, bound?, aslice, aarr, abuild, afill, alen, nilP, nilS, nilF, aeq, eqCells, eqCell, Go.Ai.known, strBin, abuiltin, aappend, abuildSlice, arowsFill, amakeSlice, acopy, minmax, rowsOf, numsT, notStr, isIntD, isByte, Q81, Q82, Q83, Q84, Q85, V.pz, V.pzs, T.toV, frz1, frz, scalT, scalTs, chunkT, Q86, Q87, Q88, Q89, Q90, Q91, Q92, Q93, Q94, List.range, List.range.loop, Q95, Q96, Q97, Q98, Q99, Q100, Q101, Q102, Q103, Q104, Q105, Q106, Q107, Q108, Q109, Q110, Q111, Q112, Q113, Q114, Q115, Q116, Q117, Q118, Q119, Q120, Q121, Q122, Q123, Q124, Q125, Q126, Q127, Q128, Q129, Q130, Int.reduceTDiv, Int.reduceTMod, Int.reduceFDiv, UInt8.reduceToNat, Nat.reduceAdd, Nat.reduceMul, Nat.reduceSub, Nat.reduceEqDiff, Nat.reduceLT, Nat.reduceLeDiff, Nat.reducePow, Nat.reduceDiv, Nat.reduceMod, Q131, Q132, Q133, Q134, Q135, Q136, Int.reduceLT, Int.reduceLE, Int.reduceAdd, Int.reduceMul, Int.reduceSub, Int.reduceNeg, Int.reduceToNat, Int.reducePow, Int.reduceEq, Q137, Q138, Q139, Q140, Q141, Q142, Q143, Q144, Q145, Q146, Q147, Q148, Q149, Q150, ↓reduceIte, ite_true, ite_false, if_true, if_false, Q151, Q152, Q153, Q154, Q155, Q156, Q157, Q158, Q159, Q160, Q161, ne_eq, Q162, Q163, Q164, Q165, Q166, Q167, Q168, Q169, Q170, Q171, Q172, Q173, Q174, Q175, reduceCtorEq, Q176, Q177, Int.reduceBEq, Int.reduceBNe, Nat.reduceBEq, Nat.reduceBNe, implies_true, forall_const, Q178, Q179, eq_self, Q180, reduceDIte, Q181, Q182, Q183, Q184, IntKind.bits, Q185, Q186, Q187, Q188, Q189, kPostKF_ret, kPostKF_normal, kPostX_ret, kPostX_normal, bsl, u3, a3, c3, b3, z3, k3, u5, a5, c5, b5, z5, k5, u23, a23, c23, b23, z23, k23, u28, a28, c28, b28, z28, k28, u31, a31, c31, b31, z31, k31, l31, u42, a42, c42, b42, z42, k42, l42, u58, a58, c58, b58, z58, k58, u60, a60, c60, b60, z60, k60, u69, a69, c69, b69, z69, k69, l69]
    refine nextK_it rfl rfl (enc_lt hL) hcl (fun e he hn => ?_) (fun hall => ?_)
    · obtain ⟨x, hx, rfl⟩ := enc_mem he
      have hfb := find_born j q hL.bnd hx
      (have hwq := trivial; repeat' (first | simp (config := { maxSteps := 10000000, implicitDefEqProofs := false }) only [Q0, V.noimm, V.noimms, frzZs, frzZ, frzA, frzV, frzVs, frzBox, boxLen, Q1, Option.isSome, Q2, Q3, Q4, Q5, Q6, Q7, cond_true, cond_false, Q8, Q9, aopD, calW, flatV, Q10, Q11, stepX, amap, stepY, alookup, afind, aupdate, adelete, amlen, arange, ameq, mapOf, akeq, Q12, Q13, pl, Q14, Q15, Q16, Q17, V.mapT, V.mapTs, Q18, Option.bind, Q19, Q20, Q21, Q22, Q23, Q24, Q25, Q26, Q27, Q28, Q29, Q30, stepK, runK, Q31, Q32, Q33, Q34, Q35, Q36, guardD, Q37, Q38, Q39, Q40, Q41, stepE, runD, callD, Q42, Q43, Q44, Q45, Q46, Q47, Q48, Q49, Q50, Q51, Q52, Q53, Q54, Q55, Q56, Q57, Q58, Q59, Q60, Q61, Q62, Q63, Q64, Q65, Q66, Q67, Q68, Q69, Q70, Q71, Q72, Q73, compact, selB, Q74, Q75, Q76, Q77, callK, evS, Q78, Q79, ofVal, ofVals, scalar, aop, ares, mkRes, V.rn, V.rns, Q80, V.cells?, cellsAt, Go.Ai.part, aload, astore, setL, V.atom, abin, aun, intBin, shiftBin, aconv, fieldOf, aindexAddr, aindex, bound?, aslice, aarr, abuild, afill, alen, nilP, nilS, nilF, aeq, eqCells, eqCell, Go.Ai.known, strBin, abuiltin, aappend, abuildSlice, arowsFill, amakeSlice, acopy, minmax, rowsOf, numsT, notStr, isIntD, isByte, Q81, Q82, Q83, Q84, Q85, V.pz, V.pzs, T.toV, frz1, frz, scalT, scalTs, chunkT, Q86, Q87, Q88, Q89, Q90, Q91, Q92, Q93, Q94, List.range, List.range.loop, Q95, Q96, Q97, Q98, Q99, Q100, Q101, Q102, Q103, Q104, Q105, Q106, Q107, Q108, Q109, Q110, Q111, Q112, Q113, Q114, Q115, Q116, Q117, Q118, Q119, Q120, Q121, Q122, Q123, Q124, Q125, Q126, Q127, Q128, Q129, Q130, Int.reduceTDiv, Int.reduceTMod, Int.reduceFDiv, UInt8.reduceToNat, Nat.reduceAdd, Nat.reduceMul, Nat.reduceSub, Nat.reduceEqDiff, Nat.reduceLT, Nat.reduceLeDiff, Nat.reducePow, Nat.reduceDiv, Nat.reduceMod, Q131, Q132, Q133, Q134, Q135, Q136, Int.reduceLT, Int.reduceLE, Int.reduceAdd, Int.reduceMul, Int.reduceSub, Int.reduceNeg, Int.reduceToNat, Int.reducePow, Int.reduceEq, Q137, Q138, Q139, Q140, Q141, Q142, Q143, Q144, Q145, Q146, Q147, Q148, Q149, Q150, ↓reduceIte, ite_true, ite_false, if_true, if_false, Q151, Q152, Q153, Q154, Q155, Q156, Q157, Q158, Q159, Q160, Q161, ne_eq, Q162, Q163, Q164, Q165, Q166, Q167, Q168, Q169, Q170, Q171, Q172, Q173, Q174, Q175, reduceCtorEq, Q176, Q177, Int.reduceBEq, Int.reduceBNe, Nat.reduceBEq, Nat.reduceBNe, implies_true, forall_const, Q178, Q179, eq_self, Q180, reduceDIte, Q181, Q182, Q183, Q184, IntKind.bits, Q185, Q186, Q187, Q188, Q189, kPostKF_ret, kPostKF_normal, kPostX_ret, kPostX_normal, bsl, hwq, u3, a3, c3, b3, z3, k3, u5, a5, c5, b5, z5, k5, u23, a23, c23, b23, z23, k23, u28, a28, c28, b28, z28, k28, u31, a31, c31, b31, z31, k31, l31, u42, a42, c42, b42, z42, k42, l42, u58, a58, c58, b58, z58, k58, u60, a60, c60, b60, z60, k60, u69, a69, c69, b69, z69, k69, l69, hfb, List.getLast?_append, List.getLast?_singleton, List.getLast?_nil, aentry] | (refine awpL_loop 18 ?_; have hwq := trivial) | (refine condK_split ?_ ?_ <;> intro hwq) | (refine guardK_split ?_ ?_ <;> intro hwq) | (refine guardE_split ?_ ?_ <;> intro hwq) | (refine awp_drawI 5 [] (List.range 19) [0, 1, 3, 7, 3, 19, 51, 115, 3, 499, 1011, 2047, 3, 3, 16383, 32767, 65535, 131071, 262143] (by decide +kernel) ?_; have hwq := trivial) | (refine awp_drawW [] (by decide +kernel) ?_; have hwq := trivial) | fail))
      refine back x false _ _ [_, _] hx (by simp) rfl rfl rfl rfl rfl ⟨rfl, ?_⟩
      obtain ⟨i, hi⟩ := List.getElem?_of_mem hx
      refine ⟨i, x, hi, by simp, fun e he hb => ?_, rfl⟩
      simp at hb
      rw [born_inj hL.bnd he hx hb]
      exact Int.le_refl _
    · exfalso
      have := hall _ (List.mem_of_getElem? (enc_get j q h0))
      simp at this
  · simp (config := { maxSteps := 10000000, implicitDefEqProofs := false }) only [Q0, V.noimm, V.noimms, frzZs, frzZ, frzA, frzV, frzVs, frzBox, boxLen, Q1, Option.isSome, Q2, Q3, Q4, Q5, Q6, Q7, cond_true, cond_false, Q8, Q9, aopD, calW, flatV, Q10, Q11, stepX, amap, stepY, alookup, afind, aupdate, adelete, amlen, arange, ameq, mapOf, akeq, Q12, Q13, pl, Q14, Q15, Q16, Q17, V.mapT, V.mapTs, Q18, Option.bind, Q19, Q20, Q21, Q22, Q23, Q24, Q25, Q26, Q27, Q28, Q29, Q30, stepK, runK, Q31, Q32, Q33, Q34, Q35, Q36, guardD, Q37, Q38, Q39, Q40, Q41, stepE, runD, callD, Q42, Q43, Q44, Q45, Q46, Q47, Q48, Q49, Q50, Q51, Q52, Q53, Q54, Q55, Q56, Q57, Q58, Q59, Q60, Q61, Q62, Q63, Q64, Q65, Q66, Q67, Q68, Q69, Q70, Q71, Q72, Q73, compact, selB, Q74, Q75, Q76, Q77, callK, evS, Q78, Q79, ofVal, ofVals, scalar, aop, ares, mkRes, V.rn, V.rns, Q80, V.cells?, cellsAt, Go.Ai.part, aload, astore, setL, V.atom, abin, aun, intBin, shiftBin, aconv, fieldOf, aindexAddr, aindex, bound?, aslice, aarr, abuild, afill, alen, nilP, nilS, nilF, aeq, eqCells, eqCell, Go.Ai.known, strBin, abuiltin, aappend, abuildSlice, arowsFill, amakeSlice, acopy, minmax, rowsOf, numsT, notStr, isIntD, isByte, Q81, Q82, Q83, Q84, Q85, V.pz, V.pzs, T.toV, frz1, frz, scalT, scalTs, chunkT, Q86, Q87, Q88, Q89, Q90, Q91, Q92, Q93, Q94, List.range, List.range.loop, Q95, Q96, Q97, Q98, Q99, Q100, Q101, Q102, Q103, Q104, Q105, Q106, Q107, Q108, Q109, Q110, Q111, Q112, Q113, Q114, Q115, Q116, Q117, Q118, Q119, Q120, Q121, Q122, Q123, Q124, Q125, Q126, Q127, Q128, Q129, Q130, Int.reduceTDiv, Int.reduceTMod, Int.reduceFDiv, UInt8.reduceToNat, Nat.reduceAdd, Nat.reduceMul, Nat.reduceSub, Nat.reduceEqDiff, Nat.reduceLT, Nat.reduceLeDiff, Nat.reducePow, Nat.reduceDiv, Nat.reduceMod, Q131, Q132, Q133, Q134, Q135, Q136, Int.reduceLT, Int.reduceLE, Int.reduceAdd, Int.reduceMul, Int.reduceSub, Int.reduceNeg, Int.reduceToNat, Int.reducePow, Int.reduceEq, Q137, Q138, Q139, Q140, Q141, Q142, Q143, Q144, Q145, Q146, Q147, Q148, Q149, Q150, ↓reduceIte, ite_true, ite_false, if_true, if_false, Q151, Q152, Q153, Q154, Q155, Q156, Q157, Q158, Q159, Q160, Q161, ne_eq, Q162, Q163, Q164, Q165, Q166, Q167, Q168, Q169, Q170, Q171, Q172, Q173, Q174, Q175, reduceCtorEq, Q176, Q177, Int.reduceBEq, Int.reduceBNe, Nat.reduceBEq, Nat.reduceBNe, implies_true, forall_const, Q178, Q179, eq_self, Q180, reduceDIte, Q181, Q182, Q183, Q184, IntKind.bits, Q185, Q186, Q187, Q188, Q189, kPostKF_ret, kPostKF_normal, kPostX_ret, kPostX_normal, bsl, u3, a3, c3, b3, z3, k3, u5, a5, c5, b5, z5, k5, u23, a23, c23, b23, z23, k23, u28, a28, c28, b28, z28, k28, u31, a31, c31, b31, z31, k31, l31, u42, a42, c42, b42, z42, k42, l42, u58, a58, c58, b58, z58, k58, u60, a60, c60, b60, z60, k60, u69, a69, c69, b69, z69, k69, l69]
    refine nextK_it rfl rfl (enc_lt hL) hcl (fun e he hn => ?_) (fun hall => ?_)
    · obtain ⟨x, hx, rfl⟩ := enc_mem he
      simp only at hn
      have hfb := find_born j q hL.bnd hx
      have he1 := List.mem_of_getElem? hg1
      have hf1 := find_enc j q e1.n (hL.rng e1 he1) L hL.rng
      rw [findIdx_of hL.nod hg1] at hf1
      have hg' := enc_get j q hg1
      have hke := keq j e1.n e1.n (hL.rng e1 he1) (hL.rng e1 he1)
      have n30 := bc30 j x.n e1.n (hL.rng x hx).1 (hL.rng x hx).2 (hL.rng e1 he1).1 (hL.rng e1 he1).2
      have n44 := bc44 x.seen e1.seen
      have n43 := bc43 (cmpZ x.seen e1.seen) (cmpZ x.n e1.n)
      obtain ⟨ix, hix⟩ := List.getElem?_of_mem hx
      have xin : x.born ∈ seen ++ [x.born] := by simp
      have e1in : e1.born ∈ seen ++ [x.born] := by simp [hb1]
      have xle : x.seen ≤ e1.seen → ∀ e ∈ L, e.born ∈ seen ++ [x.born] → x.seen ≤ e.seen := by
        intro hle e he hb
        rcases List.mem_append.1 hb with h | h
        · exact Int.le_trans hle (hm1 e he h)
        · simp at h; rw [born_inj hL.bnd he hx h]; exact Int.le_refl _
      have ele : e1.seen ≤ x.seen → ∀ e ∈ L, e.born ∈ seen ++ [x.born] → e1.seen ≤ e.seen := by
        intro hle e he hb
        rcases List.mem_append.1 hb with h | h
        · exact hm1 e he h
        · simp at h; rw [born_inj hL.bnd he hx h]; exact hle
      (have hwq := trivial; repeat' (first | simp (config := { maxSteps := 10000000, implicitDefEqProofs := false }) only [Q0, V.noimm, V.noimms, frzZs, frzZ, frzA, frzV, frzVs, frzBox, boxLen, Q1, Option.isSome, Q2, Q3, Q4, Q5, Q6, Q7, cond_true, cond_false, Q8, Q9, aopD, calW, flatV, Q10, Q11, stepX, amap, stepY, alookup, afind, aupdate, adelete, amlen, arange, ameq, mapOf, akeq, Q12, Q13, pl, Q14, Q15, Q16, Q17, V.mapT, V.mapTs, Q18, Option.bind, Q19, Q20, Q21, Q22, Q23, Q24, Q25, Q26, Q27, Q28, Q29, Q30, stepK, runK, Q31, Q32, Q33, Q34, Q35, Q36, guardD, Q37, Q38, Q39, Q40, Q41, stepE, runD, callD, Q42, Q43, Q44, Q45, Q46, Q47, Q48, Q49, Q50, Q51, Q52, Q53, Q54, Q55, Q56, Q57, Q58, Q59, Q60, Q61, Q62, Q63, Q64, Q65, Q66, Q67, Q68, Q69, Q70, Q71, Q72, Q73, compact, selB, Q74, Q75, Q76, Q77, callK, evS, Q78, Q79, ofVal, ofVals, scalar, aop, ares, mkRes, V.rn, V.rns, Q80, V.cells?, cellsAt, Go.Ai.part, aload, astore, setL, V.atom, abin, aun, intBin, shiftBin, aconv, fieldOf, aindexAddr, aindex, bound?, aslice, aarr, abuild, afill, alen, nilP, nilS, nilF, aeq, eqCells, eqCell, Go.Ai.known, strBin, abuiltin, aappend, abuildSlice, arowsFill, amakeSlice, acopy, minmax, rowsOf, numsT, notStr, isIntD, isByte, Q81, Q82, Q83, Q84, Q85, V.pz, V.pzs, T.toV, frz1, frz, scalT, scalTs, chunkT, Q86, Q87, Q88, Q89, Q90, Q91, Q92, Q93, Q94, List.range, List.range.loop, Q95, Q96, Q97, Q98, Q99, Q100, Q101, Q102, Q103, Q104, Q105, Q106, Q107, Q108, Q109, Q110, Q111, Q112, Q113, Q114, Q115, Q116, Q117, Q118, Q119, Q120, Q121, Q122, Q123, Q124, Q125, Q126, Q127, Q128, Q129, Q130, Int.reduceTDiv, Int.reduceTMod, Int.reduceFDiv, UInt8.reduceToNat, Nat.reduceAdd, Nat.reduceMul, Nat.reduceSub, Nat.reduceEqDiff, Nat.reduceLT, Nat.reduceLeDiff, Nat.reducePow, Nat.reduceDiv, Nat.reduceMod, Q131, Q132, Q133, Q134, Q135, Q136, Int.reduceLT, Int.reduceLE, Int.reduceAdd, Int.reduceMul, Int.reduceSub, Int.reduceNeg, Int.reduceToNat, Int.reducePow, Int.reduceEq, Q137, Q138, Q139, Q140, Q141, Q142, Q143, Q144, Q145, Q146, Q147, Q148, Q149, Q150, ↓reduceIte, ite_true, ite_false, if_true, if_false, Q151, Q152, Q153, Q154, Q155, Q156, Q157, Q158, Q159, Q160, Q161, ne_eq, Q162, Q163, Q164, Q165, Q166, Q167, Q168, Q169, Q170, Q171, Q172, Q173, Q174, Q175, reduceCtorEq, Q176, Q177, Int.reduceBEq, Int.reduceBNe, Nat.reduceBEq, Nat.reduceBNe, implies_true, forall_const, Q178, Q179, eq_self, Q180, reduceDIte, Q181, Q182, Q183, Q184, IntKind.bits, Q185, Q186, Q187, Q188, Q189, kPostKF_ret, kPostKF_normal, kPostX_ret, kPostX_normal, bsl, hwq, u3, a3, c3, b3, z3, k3, u5, a5, c5, b5, z5, k5, u23, a23, c23, b23, z23, k23, u28, a28, c28, b28, z28, k28, u31, a31, c31, b31, z31, k31, l31, u42, a42, c42, b42, z42, k42, l42, u58, a58, c58, b58, z58, k58, u60, a60, c60, b60, z60, k60, u69, a69, c69, b69, z69, k69, l69, hfb, hf1, hg', List.getLast?_append, List.getLast?_singleton, List.getLast?_nil, aentry, Option.some_or] | (refine awpL_loop 18 ?_; have hwq := trivial) | (refine condK_split ?_ ?_ <;> intro hwq) | (refine guardK_split ?_ ?_ <;> intro hwq) | (refine guardE_split ?_ ?_ <;> intro hwq) | (refine awp_drawI 5 [] (List.range 19) [0, 1, 3, 7, 3, 19, 51, 115, 3, 499, 1011, 2047, 3, 3, 16383, 32767, 65535, 131071, 262143] (by decide +kernel) ?_; have hwq := trivial) | (refine awp_drawW [] (by decide +kernel) ?_; have hwq := trivial) | (refine draw_plain n30 rfl (fun _ => rfl) ?_; have hwq := trivial) | (refine draw_plain n44 rfl (fun _ => rfl) ?_; have hwq := trivial) | (refine draw_data n43 rfl (V.les_refl _) (fun _ => rfl) (.inl rfl) ?_; have hwq := trivial) | fail))
      · have hle : x.seen ≤ e1.seen := by
          simp only [decide_eq_true_eq] at hwq
          unfold cmpZ at hwq
          split at hwq <;> (repeat' split at hwq) <;> omega
        exact back x false _ _ [_, _] hx hn rfl rfl rfl rfl rfl ⟨rfl, ix, x, hix, xin, xle hle, rfl⟩
      · have hle : e1.seen ≤ x.seen := by
          simp only [decide_eq_false_iff_not] at hwq
          unfold cmpZ at hwq
          split at hwq <;> (repeat' split at hwq) <;> omega
        exact back x false _ _ [_, _] hx hn rfl rfl rfl rfl rfl ⟨rfl, i1, e1, hg1, e1in, ele hle, rfl⟩
    · have hm0 := hm1 e0 (List.mem_of_getElem? h0) (hall _ (List.mem_of_getElem? (enc_get j q h0)))
      have he1 := List.mem_of_getElem? hg1
      have hn : e1.n = e0.n := by
        by_cases h : e1.n = e0.n
        · exact h
        · have := hmin e1 he1 h; omega
      have hii : i1 = i0 := by
        have a1 := findIdx_of hL.nod hg1
        have a2 := findIdx_of hL.nod h0
        rw [hn, a2] at a1
        exact (Option.some.inj a1).symm
      subst hii
      have hf1 := find_enc j q e1.n (hL.rng e1 he1) L hL.rng
      rw [findIdx_of hL.nod hg1] at hf1
      have hee := enc_erase j q L i1
      (have hwq := trivial; repeat' (first | simp (config := { maxSteps := 10000000, implicitDefEqProofs := false }) only [Q0, V.noimm, V.noimms, frzZs, frzZ, frzA, frzV, frzVs, frzBox, boxLen, Q1, Option.isSome, Q2, Q3, Q4, Q5, Q6, Q7, cond_true, cond_false, Q8, Q9, aopD, calW, flatV, Q10, Q11, stepX, amap, stepY, alookup, afind, aupdate, adelete, amlen, arange, ameq, mapOf, akeq, Q12, Q13, pl, Q14, Q15, Q16, Q17, V.mapT, V.mapTs, Q18, Option.bind, Q19, Q20, Q21, Q22, Q23, Q24, Q25, Q26, Q27, Q28, Q29, Q30, stepK, runK, Q31, Q32, Q33, Q34, Q35, Q36, guardD, Q37, Q38, Q39, Q40, Q41, stepE, runD, callD, Q42, Q43, Q44, Q45, Q46, Q47, Q48, Q49, Q50, Q51, Q52, Q53, Q54, Q55, Q56, Q57, Q58, Q59, Q60, Q61, Q62, Q63, Q64, Q65, Q66, Q67, Q68, Q69, Q70, Q71, Q72, Q73, compact, selB, Q74, Q75, Q76, Q77, callK, evS, Q78, Q79, ofVal, ofVals, scalar, aop, ares, mkRes, V.rn, V.rns, Q80, V.cells?, cellsAt, Go.Ai.part, aload, astore, setL, V.atom, abin, aun, intBin, shiftBin, aconv, fieldOf, aindexAddr, aindex, bound?, aslice, aarr, abuild, afill, alen, nilP, nilS, nilF, aeq, eqCells, eqCell, Go.Ai.known, strBin, abuiltin, aappend, abuildSlice, arowsFill, amakeSlice, acopy, minmax, rowsOf, numsT, notStr, isIntD, isByte, Q81, Q82, Q83, Q84, Q85, V.pz, V.pzs, T.toV, frz1, frz, scalT, scalTs, chunkT, Q86, Q87, Q88, Q89, Q90, Q91, Q92, Q93, Q94, List.range, List.range.loop, Q95, Q96, Q97, Q98, Q99, Q100, Q101, Q102, Q103, Q104, Q105, Q106, Q107, Q108, Q109, Q110, Q111, Q112, Q113, Q114, Q115, Q116, Q117, Q118, Q119, Q120, Q121, Q122, Q123, Q124, Q125, Q126, Q127, Q128, Q129, Q130, Int.reduceTDiv, Int.reduceTMod, Int.reduceFDiv, UInt8.reduceToNat, Nat.reduceAdd, Nat.reduceMul, Nat.reduceSub, Nat.reduceEqDiff, Nat.reduceLT, Nat.reduceLeDiff, Nat.reducePow, Nat.reduceDiv, Nat.reduceMod, Q131, Q132, Q133, Q134, Q135, Q136, Int.reduceLT, Int.reduceLE, Int.reduceAdd, Int.reduceMul, Int.reduceSub, Int.reduceNeg, Int.reduceToNat, Int.reducePow, Int.reduceEq, Q137, Q138, Q139, Q140, Q141, Q142, Q143, Q144, Q145, Q146, Q147, Q148, Q149, Q150, ↓reduceIte, ite_true, ite_false, if_true, if_false, Q151, Q152, Q153, Q154, Q155, Q156, Q157, Q158, Q159, Q160, Q161, ne_eq, Q162, Q163, Q164, Q165, Q166, Q167, Q168, Q169, Q170, Q171, Q172, Q173, Q174, Q175, reduceCtorEq, Q176, Q177, Int.reduceBEq, Int.reduceBNe, Nat.reduceBEq, Nat.reduceBNe, implies_true, forall_const, Q178, Q179, eq_self, Q180, reduceDIte, Q181, Q182, Q183, Q184, IntKind.bits, Q185, Q186, Q187, Q188, Q189, kPostKF_ret, kPostKF_normal, kPostX_ret, kPostX_normal, bsl, hwq, u3, a3, c3, b3, z3, k3, u5, a5, c5, b5, z5, k5, u23, a23, c23, b23, z23, k23, u28, a28, c28, b28, z28, k28, u31, a31, c31, b31, z31, k31, l31, u42, a42, c42, b42, z42, k42, l42, u58, a58, c58, b58, z58, k58, u60, a60, c60, b60, z60, k60, u69, a69, c69, b69, z69, k69, l69, hf1, hee, hrn2, hfmv] | (refine awpL_loop 18 ?_; have hwq := trivial) | (refine condK_split ?_ ?_ <;> intro hwq) | (refine guardK_split ?_ ?_ <;> intro hwq) | (refine guardE_split ?_ ?_ <;> intro hwq) | (refine awp_drawI 5 [] (List.range 19) [0, 1, 3, 7, 3, 19, 51, 115, 3, 499, 1011, 2047, 3, 3, 16383, 32767, 65535, 131071, 262143] (by decide +kernel) ?_; have hwq := trivial) | (refine awp_drawW [] (by decide +kernel) ?_; have hwq := trivial) | fail))
end Go.Ai
