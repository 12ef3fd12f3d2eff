/- Contracts of functions of the loaded program: called with data in the ranges that each names, it returns this value and writes to no old memory. -/
import Derived.Test.YtpadhpkplpiceaaCfdOa
import Derived.Test.YtpadhpkplpiceaaCfdS
set_option linter.unusedVariables false
set_option linter.unusedSimpArgs false
set_option maxHeartbeats 4000000
set_option maxRecDepth 100000
namespace Go.Ai
open Go.Proofs

abbrev Ev := Ent × Nat
abbrev keyE (e : Ent) : V := keyV e.i e.c
def encG (M : List Ev) : List (V × V × Nat) := M.map fun e => (keyE e.1, entV e.1, e.2)
theorem encG_flat (M : List Ev) : flatE (encG M) = true := by
  simp [flatE, encG, flatS]
theorem gkeq (i j : Int) (m n : Mc) : akeq Try.prog 69 (keyV i m) (keyV j n) = some (decide (i = j ∧ m = n)) := by
  have e : (i == j && (m.a == n.a && (m.b == n.b && (m.c == n.c && (m.d == n.d && (m.e == n.e && m.f == n.f)))))) = decide (i = j ∧ m = n) := by
    rw [mc_eq, Bool.decide_and]; rfl
  rw [← e]
  simp [akeq, a69, l69, eqCells, eqCell]
theorem isK_flip (i : Int) (m : Mc) (e : Ent) : decide (i = e.i ∧ m = e.c) = isK i m e := by
  unfold isK
  rw [Bool.eq_iff_iff]
  simp only [decide_eq_true_eq]
  constructor <;> (rintro ⟨rfl, rfl⟩; exact ⟨rfl, rfl⟩)
theorem findG (i : Int) (m : Mc) : ∀ M : List Ev, afind Try.prog 69 (keyV i m) (encG M) = some (M.findIdx? (fun e => isK i m e.1))
  | [] => rfl
  | e :: M => by
    have ih := findG i m M
    simp only [encG] at ih
    simp only [encG, List.map_cons, afind, gkeq, ih, Option.map_some, List.findIdx?_cons, isK_flip]
theorem encG_get {M : List Ev} {k : Nat} {e : Ev} (h : M[k]? = some e) : (encG M)[k]? = some (keyE e.1, entV e.1, e.2) := by simp [encG, h]
theorem encG_mem {M : List Ev} {e : V × V × Nat} (h : e ∈ encG M) : ∃ x ∈ M, e = (keyE x.1, entV x.1, x.2) := by
  simp only [encG, List.mem_map] at h
  obtain ⟨x, h1, h2⟩ := h
  exact ⟨x, h1, h2.symm⟩
theorem encG_erase (M : List Ev) (k : Nat) : (encG M).eraseIdx k = encG (M.eraseIdx k) := by
  unfold encG
  induction M generalizing k with
  | nil => rfl
  | cons x M ih => cases k with
    | zero => rfl
    | succ k => simp [ih]
theorem encG_set (M : List Ev) (k : Nat) (e : Ent) (b : Nat) : (encG M).set k (keyE e, entV e, b) = encG (M.set k (e, b)) := by simp [encG, List.map_set]
theorem encG_app (M : List Ev) (e : Ent) (b : Nat) : encG M ++ [(keyE e, entV e, b)] = encG (M ++ [(e, b)]) := by simp [encG]
theorem encG_len (M : List Ev) : (encG M).length = M.length := by simp [encG]
theorem gmt (M : List Ev) (f : Nat → Nat) (c : Nat) : Blk.mapT f (.mp (encG M) c) = .mp (encG M) c := mapT_mp (encG_flat M) f c
theorem grn (M : List Ev) (f : Nat → Option Nat) (c : Nat) : Blk.rn f (.mp (encG M) c) = some (.mp (encG M) c) := rn_mp (encG_flat M) f c
theorem gpz (M : List Ev) (f : List Nat) (c : Nat) : Blk.pz f (.mp (encG M) c) = .mp (encG M) c := pz_mp (encG_flat M) f c

def keyOf (e : Ent) : Int × Mc := (e.i, e.c)
structure GoodG (M : List Ev) (c : Nat) : Prop where
  ok : ∀ e ∈ M, okE e.1
  nod : (M.map (fun e => keyOf e.1)).Nodup
  bnd : (M.map (·.2)).Nodup
  lt : ∀ e ∈ M, e.2 < c
theorem GoodG.sub {M N : List Ev} {c : Nat} (h : GoodG M c) (hs : N.Sublist M) : GoodG N c :=
  ⟨fun e he => h.ok e (hs.subset he), h.nod.sublist (hs.map _), h.bnd.sublist (hs.map _), fun e he => h.lt e (hs.subset he)⟩
theorem encG_lt {M : List Ev} {c : Nat} (h : GoodG M c) : ∀ e ∈ encG M, e.2.2 < c := by
  intro e he
  obtain ⟨x, hx, rfl⟩ := encG_mem he
  exact h.lt x hx
theorem encG_born {M : List Ev} (h : (M.map (·.2)).Nodup) {e : Ev} (he : e ∈ M) : (encG M).find? (fun x => x.2.2 == e.2) = some (keyE e.1, entV e.1, e.2) := by
  induction M with
  | nil => simp at he
  | cons x M ih =>
    simp only [List.map_cons, List.nodup_cons] at h
    simp only [encG, List.map_cons, List.find?_cons]
    rcases List.mem_cons.1 he with rfl | he
    · simp
    · have hne : ¬ (x.2 = e.2) := fun hh => h.1 (hh ▸ List.mem_map.2 ⟨e, he, rfl⟩)
      simp only [beq_iff_eq, hne, Bool.false_eq_true, beq_eq_false_iff_ne.2 hne]
      exact ih h.2 he
theorem map_inj {α β : Type} {f : α → β} {L : List α} (h : (L.map f).Nodup) {x y : α} (hx : x ∈ L) (hy : y ∈ L) (e : f x = f y) : x = y := by
  induction L with
  | nil => simp at hx
  | cons z L ih =>
    simp only [List.map_cons, List.nodup_cons] at h
    rcases List.mem_cons.1 hx with hx' | hx' <;> rcases List.mem_cons.1 hy with hy' | hy'
    · rw [hx', hy']
    · exact (h.1 (List.mem_map.2 ⟨y, hy', by rw [← e, hx']⟩)).elim
    · exact (h.1 (List.mem_map.2 ⟨x, hx', by rw [e, hy']⟩)).elim
    · exact ih h.2 hx' hy'
theorem findG_of {M : List Ev} (h : (M.map (fun e => keyOf e.1)).Nodup) {k : Nat} {e : Ev} (he : M[k]? = some e) : M.findIdx? (fun x => isK e.1.i e.1.c x.1) = some k := by
  rw [List.findIdx?_eq_some_iff_getElem]
  have hk := (List.getElem?_eq_some_iff.1 he)
  have hkl := hk.1
  refine ⟨hk.1, by rw [hk.2]; simp [isK], fun j hj => ?_⟩
  intro hh
  simp only [isK, decide_eq_true_eq] at hh
  have hne := List.pairwise_iff_getElem.1 h j k (by simp; omega) (by simp; exact hk.1) hj
  simp only [List.getElem_map, hk.2] at hne
  exact hne (by simp [keyOf, hh])
theorem gmeas {M : List Ev} {seen : List Nat} {x : Ev} (hx : x ∈ M) (hn : x.2 ∉ seen) : (M.filter fun e => decide (e.2 ∉ seen ++ [x.2])).length < (M.filter fun e => decide (e.2 ∉ seen)).length := by
  induction M with
  | nil => simp at hx
  | cons y M ih =>
    have hle : (M.filter fun e => decide (e.2 ∉ seen ++ [x.2])).length ≤ (M.filter fun e => decide (e.2 ∉ seen)).length := by
      clear ih hx
      induction M with
      | nil => simp
      | cons z M ih =>
        simp only [List.filter_cons]
        by_cases h1 : z.2 ∈ seen
        · simp [h1] at ih ⊢; exact ih
        · by_cases h2 : z.2 = x.2
          · simp [h1, h2, hn] at ih ⊢; omega
          · simp [h1, h2] at ih ⊢; exact ih
    simp only [List.filter_cons]
    rcases List.mem_cons.1 hx with rfl | hx
    · simp [hn] at hle ⊢; omega
    · have := ih hx
      by_cases h1 : y.2 ∈ seen
      · simp [h1] at this ⊢; exact this
      · by_cases h2 : y.2 = x.2
        · simp [h1, h2, hn] at hle ⊢; omega
        · simp [h1, h2] at this ⊢; exact this

/-! ### Which is the elder -/
def lt3 (x y : Ent) : Prop := x.s < y.s ∨ (x.s = y.s ∧ ltE x y)

/-- The evicting loop's head. -/
def EvG (r a : Int) (M : List Ev) (c : Nat) (k : Nat) (S : St) : Prop :=
  ∃ (mv seen : List Nat) (last : Nat) (old : List V) (first : Bool), S = ⟨tms [(0, .ptr 0 0 0), (2, .ptr 2 0 0), (3, vB first), (10, .ptr 3 0 0)], [.box [vI r, vI a, .mref 1] false, .mp (encG M) c, .box old false, .it (some 1) c seen last], mv⟩ ∧
    (∀ t ∈ mv, 2 ≤ t) ∧ c ≤ last ∧ k = (M.filter fun e => decide (e.2 ∉ seen)).length ∧
    ((first = true ∧ seen = [] ∧ old = [vI 0, .s (.int .u8 0), .s (.int .u8 0), .s (.int .u8 0), .s (.int .u8 0), .s (.int .u8 0), .s (.int .u8 0)]) ∨
     (first = false ∧ ∃ (i0 : Nat) (e0 : Ev), M[i0]? = some e0 ∧ e0.2 ∈ seen ∧ (∀ e ∈ M, e.2 ∈ seen → ¬ lt3 e.1 e0.1) ∧ old = [vI e0.1.i, .s (.int .u8 e0.1.c.a), .s (.int .u8 e0.1.c.b), .s (.int .u8 e0.1.c.c), .s (.int .u8 e0.1.c.d), .s (.int .u8 e0.1.c.e), .s (.int .u8 e0.1.c.f)]))

theorem gq27 (r a : Int) (M : List Ev) (c : Nat) (hL : GoodG M c) (i0 : Nat) (e0 : Ev) (h0 : M[i0]? = some e0) (hmin : ∀ e ∈ M, e ≠ e0 → lt3 e0.1 e.1) :
    AC Try.prog 27 [.ptr 0 0 0] (hB r a (encG M) c) (eqS (.tuple []) (hB r a (encG (M.eraseIdx i0)) c)) := by
  refine AC_heap orders [0, 1] Try.func27 rfl (by kernel_rfl) (by kernel_rfl) Try.ntmps27 (by simp) ?_
  unfold Try.f27
  (have hwq := trivial; repeat' (first | simp (config := { maxSteps := 10000000, implicitDefEqProofs := false }) only [Q0, V.noimm, V.noimms, frzZs, frzZ, frzA, frzV, frzVs, frzBox, boxLen, Q1, Option.isSome, Q2, Q3, Q4, Q5, Q6, Q7, cond_true, cond_false, Q8, Q9, aopD, calW, flatV, Q10, Q11, stepX, amap, stepY, alookup, afind, aupdate, adelete, amlen, arange, ameq, mapOf, akeq, Q12, Q13, pl, Q14, Q15, Q16, Q17, V.mapT, V.mapTs, Q18, Option.bind, Q19, Q20, Q21, Q22, Q23, Q24, Q25, Q26, Q27, Q28, Q29, Q30, stepK, runK, Q31, Q32, Q33, Q34, Q35, Q36, guardD, Q37, Q38, Q39, Q40, Q41, stepE, runD, callD, Q42, Q43, Q44, Q45, Q46, Q47, Q48, Q49, Q50, Q51, Q52, Q53, Q54, Q55, Q56, Q57, Q58, Q59, Q60, Q61, Q62, Q63, Q64, Q65, Q66, Q67, Q68, Q69, Q70, Q71, Q72, Q73, compact, selB, Q74, Q75, Q76, Q77, callK, evS, Q78, Q79, ofVal, ofVals, scalar, aop, ares, mkRes, V.rn, V.rns, Q80, V.cells?, cellsAt, Go.Ai.part, aload, astore, setL, V.atom, abin, aun, intBin, shiftBin, aconv, fieldOf, aindexAddr, aindex, bound?, aslice, aarr, abuild, afill, alen, nilP, nilS, nilF, aeq, eqCells, eqCell, Go.Ai.known, strBin, abuiltin, aappend, abuildSlice, arowsFill, amakeSlice, acopy, minmax, rowsOf, numsT, notStr, isIntD, isByte, Q81, Q82, Q83, Q84, Q85, V.pz, V.pzs, T.toV, frz1, frz, scalT, scalTs, chunkT, Q86, Q87, Q88, Q89, Q90, Q91, Q92, Q93, Q94, List.range, List.range.loop, Q95, Q96, Q97, Q98, Q99, Q100, Q101, Q102, Q103, Q104, Q105, Q106, Q107, Q108, Q109, Q110, Q111, Q112, Q113, Q114, Q115, Q116, Q117, Q118, Q119, Q120, Q121, Q122, Q123, Q124, Q125, Q126, Q127, Q128, Q129, Q130, Int.reduceTDiv, Int.reduceTMod, Int.reduceFDiv, UInt8.reduceToNat, Nat.reduceAdd, Nat.reduceMul, Nat.reduceSub, Nat.reduceEqDiff, Nat.reduceLT, Nat.reduceLeDiff, Nat.reducePow, Nat.reduceDiv, Nat.reduceMod, Q131, Q132, Q133, Q134, Q135, Q136, Int.reduceLT, Int.reduceLE, Int.reduceAdd, Int.reduceMul, Int.reduceSub, Int.reduceNeg, Int.reduceToNat, Int.reducePow, Int.reduceEq, Q137, Q138, Q139, Q140, Q141, Q142, Q143, Q144, Q145, Q146, Q147, Q148, Q149, Q150, ↓reduceIte, ite_true, ite_false, if_true, if_false, Q151, Q152, Q153, Q154, Q155, Q156, Q157, Q158, Q159, Q160, Q161, ne_eq, Q162, Q163, Q164, Q165, Q166, Q167, Q168, Q169, Q170, Q171, Q172, Q173, Q174, Q175, reduceCtorEq, Q176, Q177, Int.reduceBEq, Int.reduceBNe, Nat.reduceBEq, Nat.reduceBNe, implies_true, forall_const, Q178, Q179, eq_self, Q180, reduceDIte, Q181, Q182, Q183, Q184, IntKind.bits, Q185, Q186, Q187, Q188, Q189, kPostKF_ret, kPostKF_normal, kPostX_ret, kPostX_normal, bsl, hwq, u3, a3, c3, b3, z3, k3, u5, a5, c5, b5, z5, k5, u23, a23, c23, b23, z23, k23, u28, a28, c28, b28, z28, k28, u31, a31, c31, b31, z31, k31, l31, u42, a42, c42, b42, z42, k42, l42, u58, a58, c58, b58, z58, k58, u60, a60, c60, b60, z60, k60, u69, a69, c69, b69, z69, k69, l69] | (refine condK_split ?_ ?_ <;> intro hwq) | (refine guardK_split ?_ ?_ <;> intro hwq) | (refine guardE_split ?_ ?_ <;> intro hwq) | (refine awp_drawI 5 [20, 15, 22, 23, 10] (List.range 19) [0, 1, 3, 7, 3, 19, 51, 115, 3, 499, 1011, 2047, 3, 3, 16383, 32767, 65535, 131071, 262143] (by decide +kernel) ?_; have hwq := trivial) | (refine awp_drawW [20, 15, 22, 23, 10] (by decide +kernel) ?_; have hwq := trivial) | fail))
  refine awp_loopK (EvG r a M c) (M.filter fun e => decide (e.2 ∉ ([] : List Nat))).length _ (Weak.cutI 4 [0, 2, 3, 10] ?_ ?_) ⟨_, [], c, _, true, rfl, by simp, Nat.le_refl _, rfl, .inl ⟨rfl, rfl, rfl⟩⟩ ?_
  · simp (config := { maxSteps := 10000000, implicitDefEqProofs := false }) only [Q0, Option.isSome, Q2, Q3, Q4, Q7, cond_true, cond_false, Q18, Option.bind, Q47, Q48, Q52, selB, Q74, Q75, Q76, Q77, Q78, Q79, V.rn, V.rns, Q80, Go.Ai.known, Q81, Q82, Q83, Q84, Q85, V.pz, V.pzs, T.toV, frz1, Q86, Q87, Q88, Q93, Q94, List.range, List.range.loop, Q96, Q97, Q98, Q99, Q100, Q101, Q102, Q103, Q104, Q105, Q106, Q107, Q108, Q109, Q116, Q117, Q118, Q119, Q120, Q121, Q122, Q123, Q124, Q125, Q126, Q127, Q128, Q129, Q130, Nat.reduceAdd, Nat.reduceMul, Nat.reduceSub, Nat.reduceEqDiff, Nat.reduceLT, Nat.reduceLeDiff, Nat.reducePow, Nat.reduceDiv, Nat.reduceMod, Q131, Q132, Q133, Q134, Q135, Q136, Int.reduceLT, Int.reduceLE, Int.reduceAdd, Int.reduceMul, Int.reduceSub, Int.reduceNeg, Int.reducePow, Int.reduceEq, Q137, Q138, Q139, Q140, Q141, Q142, Q143, Q144, Q145, Q146, Q147, Q148, Q149, Q150, ↓reduceIte, ite_true, ite_false, if_true, if_false, Q151, Q152, Q153, Q154, Q155, Q156, Q157, Q158, Q159, Q160, Q161, ne_eq, Q162, Q163, Q164, Q165, Q166, Q167, Q168, Q169, Q170, Q171, Q172, Q173, Q174, Q175, reduceCtorEq, Q176, Q177, Int.reduceBEq, Int.reduceBNe, Nat.reduceBEq, Nat.reduceBNe, implies_true, forall_const, Q178, Q179, eq_self, Q180, Q181, Q182, Q183, Q184, IntKind.bits, Q185, Q186, Q187, Q189, upd_tmsS, selT_cons, selT_nil]
  · simp (config := { maxSteps := 10000000, implicitDefEqProofs := false }) only [Q0, Option.isSome, Q2, Q3, Q4, Q7, cond_true, cond_false, Q18, Option.bind, Q47, Q48, Q52, selB, Q74, Q75, Q76, Q77, Q78, Q79, V.rn, V.rns, Q80, Go.Ai.known, Q81, Q82, Q83, Q84, Q85, V.pz, V.pzs, T.toV, frz1, Q86, Q87, Q88, Q93, Q94, List.range, List.range.loop, Q96, Q97, Q98, Q99, Q100, Q101, Q102, Q103, Q104, Q105, Q106, Q107, Q108, Q109, Q116, Q117, Q118, Q119, Q120, Q121, Q122, Q123, Q124, Q125, Q126, Q127, Q128, Q129, Q130, Nat.reduceAdd, Nat.reduceMul, Nat.reduceSub, Nat.reduceEqDiff, Nat.reduceLT, Nat.reduceLeDiff, Nat.reducePow, Nat.reduceDiv, Nat.reduceMod, Q131, Q132, Q133, Q134, Q135, Q136, Int.reduceLT, Int.reduceLE, Int.reduceAdd, Int.reduceMul, Int.reduceSub, Int.reduceNeg, Int.reducePow, Int.reduceEq, Q137, Q138, Q139, Q140, Q141, Q142, Q143, Q144, Q145, Q146, Q147, Q148, Q149, Q150, ↓reduceIte, ite_true, ite_false, if_true, if_false, Q151, Q152, Q153, Q154, Q155, Q156, Q157, Q158, Q159, Q160, Q161, ne_eq, Q162, Q163, Q164, Q165, Q166, Q167, Q168, Q169, Q170, Q171, Q172, Q173, Q174, Q175, reduceCtorEq, Q176, Q177, Int.reduceBEq, Int.reduceBNe, Nat.reduceBEq, Nat.reduceBNe, implies_true, forall_const, Q178, Q179, eq_self, Q180, Q181, Q182, Q183, Q184, IntKind.bits, Q185, Q186, Q187, Q189, upd_tmsS, selT_cons, selT_nil, grn, rn_its]
  rintro k S ⟨mv, seen, last, old, first, rfl, hmv, hcl, rfl, hst⟩
  have hfmv : mv.filter (fun x => decide (x < 2)) = [] := by
    rw [List.filter_eq_nil_iff]
    intro t ht
    have := hmv t ht
    simp
    omega
  have back : ∀ (x : Ev) (first : Bool) (old : List V) (tm : Nat → V) (τ : List Blk), x ∈ M → x.2 ∉ seen → tm 0 = .ptr 0 0 0 → tm 2 = .ptr 2 0 0 → tm 3 = vB first → tm 10 = .ptr 3 0 0 → V.rns (keepF (List.range 4)) old = some old →
      ((first = false ∧ ∃ (i0 : Nat) (e0 : Ev), M[i0]? = some e0 ∧ e0.2 ∈ seen ++ [x.2] ∧ (∀ e ∈ M, e.2 ∈ seen ++ [x.2] → ¬ lt3 e.1 e0.1) ∧ old = [vI e0.1.i, .s (.int .u8 e0.1.c.a), .s (.int .u8 e0.1.c.b), .s (.int .u8 e0.1.c.c), .s (.int .u8 e0.1.c.d), .s (.int .u8 e0.1.c.e), .s (.int .u8 e0.1.c.f)])) →
      ∃ m S1, m < (M.filter fun e => decide (e.2 ∉ seen)).length ∧ Weak ⟨tm, [.box [vI r, vI a, .mref 1] false, .mp (encG M) c, .box old false, .it (some 1) c (seen ++ [x.2]) c] ++ τ, mv⟩ S1 ∧ EvG r a M c m S1 := by
    intro x first old tm τ hx hn t0 t2 t3 t10 hold hfin
    refine ⟨_, ⟨tms [(0, .ptr 0 0 0), (2, .ptr 2 0 0), (3, vB first), (10, .ptr 3 0 0)], [.box [vI r, vI a, .mref 1] false, .mp (encG M) c, .box old false, .it (some 1) c (seen ++ [x.2]) c], mv ++ List.range' 4 τ.length⟩, gmeas hx hn, ?_, ⟨_, _, _, _, _, rfl, ?_, Nat.le_refl _, rfl, .inr hfin⟩⟩
    rotate_left
    · intro t ht
      rcases List.mem_append.1 ht with h | h
      · exact hmv t h
      · have := (List.mem_range'_1.1 h).1; omega
    refine Weak.cut 4 ?_ ?_ (fun t ht => by simp [ht]) (fun t h1 h2 => List.mem_append_right _ (List.mem_range'_1.2 ⟨h1, by simp at h2; omega⟩))
    · intro p hp
      simp only [List.mem_cons, List.not_mem_nil, or_false] at hp
      rcases hp with rfl | rfl | rfl | rfl
      · simp [t0, V.rn, keepF]; decide
      · simp [t2, V.rn, keepF]; decide
      · simp [t3, V.rn]
      · simp [t10, V.rn, keepF]; decide
    · have e1 : V.rns (keepF (List.range 4)) [vI r, vI a, .mref 1] = some [vI r, vI a, .mref 1] := by simp [V.rns, V.rn, keepF]; decide
      have e2 : Blk.rn (keepF (List.range 4)) (.it (some 1) c (seen ++ [x.2]) c) = some (.it (some 1) c (seen ++ [x.2]) c) := by
        have : keepF (List.range 4) 1 = some 1 := by decide
        simp [Blk.rn, this]
      simp only [List.cons_append, List.nil_append, List.range, List.range.loop, selB, List.getElem?_cons_zero, List.getElem?_cons_succ, Option.bind_some, rn_box, grn]
      simp only [List.range, List.range.loop] at e1 e2 hold
      simp only [e1, e2, hold, Option.map_some]
  rcases hst with ⟨rfl, rfl, rfl⟩ | ⟨rfl, i1, e1, hg1, hb1, hm1, rfl⟩
  · simp (config := { maxSteps := 10000000, implicitDefEqProofs := false }) only [Q0, V.noimm, V.noimms, frzZs, frzZ, frzA, frzV, frzVs, frzBox, boxLen, Q1, Option.isSome, Q2, Q3, Q4, Q5, Q6, Q7, cond_true, cond_false, Q8, Q9, aopD, calW, flatV, Q10, Q11, stepX, amap, stepY, alookup, afind, aupdate, adelete, amlen, arange, ameq, mapOf, akeq, Q12, Q13, pl, Q14, Q15, Q16, Q17, V.mapT, V.mapTs, Q18, Option.bind, Q19, Q20, Q21, Q22, Q23, Q24, Q25, Q26, Q27, Q28, Q29, Q30, stepK, runK, Q31, Q32, Q33, Q34, Q35, Q36, guardD, Q37, Q38, Q39, Q40, Q41, stepE, runD, callD, Q42, Q43, Q44, Q45, Q46, Q47, Q48, Q49, Q50, Q51, Q52, Q53, Q54, Q55, Q56, Q57, Q58, Q59, Q60, Q61, Q62, Q63, Q64, Q65, Q66, Q67, Q68, Q69, Q70, Q71, Q72, Q73, compact, selB, Q74, Q75, Q76, Q77, callK, evS, Q78, Q79, ofVal, ofVals, scalar, aop, ares, mkRes, V.rn, V.rns, Q80, V.cells?, cellsAt, Go.Ai.part, aload, astore, setL, V.atom, abin, aun, intBin, shiftBin, aconv, fieldOf, aindexAddr, aindex, bound?, aslice, aarr, abuild, afill, alen, nilP, nilS, nilF, aeq, eqCells, eqCell, Go.Ai.known, strBin, abuiltin, aappend, abuildSlice, arowsFill, amakeSlice, acopy, minmax, rowsOf, numsT, notStr, isIntD, isByte, Q81, Q82, Q83, Q84, Q85, V.pz, V.pzs, T.toV, frz1, frz, scalT, scalTs, chunkT, Q86, Q87, Q88, Q89, Q90, Q91, Q92, Q93, Q94, List.range, List.range.loop, Q95, Q96, Q97, Q98, Q99, Q100, Q101, Q102, Q103, Q104, Q105, Q106, Q107, Q108, Q109, Q110, Q111, Q112, Q113, Q114, Q115, Q116, Q117, Q118, Q119, Q120, Q121, Q122, Q123, Q124, Q125, Q126, Q127, Q128, Q129, Q130, Int.reduceTDiv, Int.reduceTMod, Int.reduceFDiv, UInt8.reduceToNat, Nat.reduceAdd, Nat.reduceMul, Nat.reduceSub, Nat.reduceEqDiff, Nat.reduceLT, Nat.reduceLeDiff, Nat.reducePow, Nat.reduceDiv, Nat.reduceMod, Q131, Q132, Q133, Q134, Q135, Q136, Int.reduceLT, Int.reduceLE, Int.reduceAdd, Int.reduceMul, Int.reduceSub, Int.reduceNeg, Int.reduceToNat, Int.reducePow, Int.reduceEq, Q137, Q138, Q139, Q140, Q141, Q142, Q143, Q144, Q145, Q146, Q147, Q148, Q149, Q150, ↓reduceIte, ite_true, ite_false, if_true, if_false, Q151, Q152, Q153, Q154, Q155, Q156, Q157, Q158, Q159, Q160, Q161, ne_eq, Q162, Q163, Q164, Q165, Q166, Q167, Q168, Q169, Q170, Q171, Q172, Q173, Q174, Q175, reduceCtorEq, Q176, Q177, Int.reduceBEq, Int.reduceBNe, Nat.reduceBEq, Nat.reduceBNe, implies_true, forall_const, Q178, Q179, eq_self, Q180, reduceDIte, Q181, Q182, Q183, Q184, IntKind.bits, Q185, Q186, Q187, Q188, Q189, kPostKF_ret, kPostKF_normal, kPostX_ret, kPostX_normal, bsl, u3, a3, c3, b3, z3, k3, u5, a5, c5, b5, z5, k5, u23, a23, c23, b23, z23, k23, u28, a28, c28, b28, z28, k28, u31, a31, c31, b31, z31, k31, l31, u42, a42, c42, b42, z42, k42, l42, u58, a58, c58, b58, z58, k58, u60, a60, c60, b60, z60, k60, u69, a69, c69, b69, z69, k69, l69]
    refine nextK_it rfl rfl (encG_lt hL) hcl (fun e he hn => ?_) (fun hall => ?_)
    · obtain ⟨x, hx, rfl⟩ := encG_mem he
      have hfb := encG_born hL.bnd hx
      (have hwq := trivial; repeat' (first | simp (config := { maxSteps := 10000000, implicitDefEqProofs := false }) only [Q0, V.noimm, V.noimms, frzZs, frzZ, frzA, frzV, frzVs, frzBox, boxLen, Q1, Option.isSome, Q2, Q3, Q4, Q5, Q6, Q7, cond_true, cond_false, Q8, Q9, aopD, calW, flatV, Q10, Q11, stepX, amap, stepY, alookup, afind, aupdate, adelete, amlen, arange, ameq, mapOf, akeq, Q12, Q13, pl, Q14, Q15, Q16, Q17, V.mapT, V.mapTs, Q18, Option.bind, Q19, Q20, Q21, Q22, Q23, Q24, Q25, Q26, Q27, Q28, Q29, Q30, stepK, runK, Q31, Q32, Q33, Q34, Q35, Q36, guardD, Q37, Q38, Q39, Q40, Q41, stepE, runD, callD, Q42, Q43, Q44, Q45, Q46, Q47, Q48, Q49, Q50, Q51, Q52, Q53, Q54, Q55, Q56, Q57, Q58, Q59, Q60, Q61, Q62, Q63, Q64, Q65, Q66, Q67, Q68, Q69, Q70, Q71, Q72, Q73, compact, selB, Q74, Q75, Q76, Q77, callK, evS, Q78, Q79, ofVal, ofVals, scalar, aop, ares, mkRes, V.rn, V.rns, Q80, V.cells?, cellsAt, Go.Ai.part, aload, astore, setL, V.atom, abin, aun, intBin, shiftBin, aconv, fieldOf, aindexAddr, aindex, bound?, aslice, aarr, abuild, afill, alen, nilP, nilS, nilF, aeq, eqCells, eqCell, Go.Ai.known, strBin, abuiltin, aappend, abuildSlice, arowsFill, amakeSlice, acopy, minmax, rowsOf, numsT, notStr, isIntD, isByte, Q81, Q82, Q83, Q84, Q85, V.pz, V.pzs, T.toV, frz1, frz, scalT, scalTs, chunkT, Q86, Q87, Q88, Q89, Q90, Q91, Q92, Q93, Q94, List.range, List.range.loop, Q95, Q96, Q97, Q98, Q99, Q100, Q101, Q102, Q103, Q104, Q105, Q106, Q107, Q108, Q109, Q110, Q111, Q112, Q113, Q114, Q115, Q116, Q117, Q118, Q119, Q120, Q121, Q122, Q123, Q124, Q125, Q126, Q127, Q128, Q129, Q130, Int.reduceTDiv, Int.reduceTMod, Int.reduceFDiv, UInt8.reduceToNat, Nat.reduceAdd, Nat.reduceMul, Nat.reduceSub, Nat.reduceEqDiff, Nat.reduceLT, Nat.reduceLeDiff, Nat.reducePow, Nat.reduceDiv, Nat.reduceMod, Q131, Q132, Q133, Q134, Q135, Q136, Int.reduceLT, Int.reduceLE, Int.reduceAdd, Int.reduceMul, Int.reduceSub, Int.reduceNeg, Int.reduceToNat, Int.reducePow, Int.reduceEq, Q137, Q138, Q139, Q140, Q141, Q142, Q143, Q144, Q145, Q146, Q147, Q148, Q149, Q150, ↓reduceIte, ite_true, ite_false, if_true, if_false, Q151, Q152, Q153, Q154, Q155, Q156, Q157, Q158, Q159, Q160, Q161, ne_eq, Q162, Q163, Q164, Q165, Q166, Q167, Q168, Q169, Q170, Q171, Q172, Q173, Q174, Q175, reduceCtorEq, Q176, Q177, Int.reduceBEq, Int.reduceBNe, Nat.reduceBEq, Nat.reduceBNe, implies_true, forall_const, Q178, Q179, eq_self, Q180, reduceDIte, Q181, Q182, Q183, Q184, IntKind.bits, Q185, Q186, Q187, Q188, Q189, kPostKF_ret, kPostKF_normal, kPostX_ret, kPostX_normal, bsl, hwq, u3, a3, c3, b3, z3, k3, u5, a5, c5, b5, z5, k5, u23, a23, c23, b23, z23, k23, u28, a28, c28, b28, z28, k28, u31, a31, c31, b31, z31, k31, l31, u42, a42, c42, b42, z42, k42, l42, u58, a58, c58, b58, z58, k58, u60, a60, c60, b60, z60, k60, u69, a69, c69, b69, z69, k69, l69, hfb, List.getLast?_append, List.getLast?_singleton, List.getLast?_nil, aentry] | (refine awpL_loop 18 ?_; have hwq := trivial) | (refine condK_split ?_ ?_ <;> intro hwq) | (refine guardK_split ?_ ?_ <;> intro hwq) | (refine guardE_split ?_ ?_ <;> intro hwq) | (refine awp_drawI 5 [20, 15, 22, 23, 10] (List.range 19) [0, 1, 3, 7, 3, 19, 51, 115, 3, 499, 1011, 2047, 3, 3, 16383, 32767, 65535, 131071, 262143] (by decide +kernel) ?_; have hwq := trivial) | (refine awp_drawW [20, 15, 22, 23, 10] (by decide +kernel) ?_; have hwq := trivial) | fail))
      refine back x false _ _ [_, _] hx (by simp) rfl rfl rfl rfl rfl ⟨rfl, ?_⟩
      obtain ⟨i, hi⟩ := List.getElem?_of_mem hx
      refine ⟨i, x, hi, by simp, fun e he hb => ?_, rfl⟩
      simp at hb
      rw [map_inj hL.bnd he hx hb]
      unfold lt3 ltE
      omega
    · exfalso
      have := hall _ (List.mem_of_getElem? (encG_get h0))
      simp at this
  · simp (config := { maxSteps := 10000000, implicitDefEqProofs := false }) only [Q0, V.noimm, V.noimms, frzZs, frzZ, frzA, frzV, frzVs, frzBox, boxLen, Q1, Option.isSome, Q2, Q3, Q4, Q5, Q6, Q7, cond_true, cond_false, Q8, Q9, aopD, calW, flatV, Q10, Q11, stepX, amap, stepY, alookup, afind, aupdate, adelete, amlen, arange, ameq, mapOf, akeq, Q12, Q13, pl, Q14, Q15, Q16, Q17, V.mapT, V.mapTs, Q18, Option.bind, Q19, Q20, Q21, Q22, Q23, Q24, Q25, Q26, Q27, Q28, Q29, Q30, stepK, runK, Q31, Q32, Q33, Q34, Q35, Q36, guardD, Q37, Q38, Q39, Q40, Q41, stepE, runD, callD, Q42, Q43, Q44, Q45, Q46, Q47, Q48, Q49, Q50, Q51, Q52, Q53, Q54, Q55, Q56, Q57, Q58, Q59, Q60, Q61, Q62, Q63, Q64, Q65, Q66, Q67, Q68, Q69, Q70, Q71, Q72, Q73, compact, selB, Q74, Q75, Q76, Q77, callK, evS, Q78, Q79, ofVal, ofVals, scalar, aop, ares, mkRes, V.rn, V.rns, Q80, V.cells?, cellsAt, Go.Ai.part, aload, astore, setL, V.atom, abin, aun, intBin, shiftBin, aconv, fieldOf, aindexAddr, aindex, bound?, aslice, aarr, abuild, afill, alen, nilP, nilS, nilF, aeq, eqCells, eqCell, Go.Ai.known, strBin, abuiltin, aappend, abuildSlice, arowsFill, amakeSlice, acopy, minmax, rowsOf, numsT, notStr, isIntD, isByte, Q81, Q82, Q83, Q84, Q85, V.pz, V.pzs, T.toV, frz1, frz, scalT, scalTs, chunkT, Q86, Q87, Q88, Q89, Q90, Q91, Q92, Q93, Q94, List.range, List.range.loop, Q95, Q96, Q97, Q98, Q99, Q100, Q101, Q102, Q103, Q104, Q105, Q106, Q107, Q108, Q109, Q110, Q111, Q112, Q113, Q114, Q115, Q116, Q117, Q118, Q119, Q120, Q121, Q122, Q123, Q124, Q125, Q126, Q127, Q128, Q129, Q130, Int.reduceTDiv, Int.reduceTMod, Int.reduceFDiv, UInt8.reduceToNat, Nat.reduceAdd, Nat.reduceMul, Nat.reduceSub, Nat.reduceEqDiff, Nat.reduceLT, Nat.reduceLeDiff, Nat.reducePow, Nat.reduceDiv, Nat.reduceMod, Q131, Q132, Q133, Q134, Q135, Q136, Int.reduceLT, Int.reduceLE, Int.reduceAdd, Int.reduceMul, Int.reduceSub, Int.reduceNeg, Int.reduceToNat, Int.reducePow, Int.reduceEq, Q137, Q138, Q139, Q140, Q141, Q142, Q143, Q144, Q145, Q146, Q147, Q148, Q149, Q150, ↓reduceIte, ite_true, ite_false, if_true, if_false, Q151, Q152, Q153, Q154, Q155, Q156, Q157, Q158, Q159, Q160, Q161, ne_eq, Q162, Q163, Q164, Q165, Q166, Q167, Q168, Q169, Q170, Q171, Q172, Q173, Q174, Q175, reduceCtorEq, Q176, Q177, Int.reduceBEq, Int.reduceBNe, Nat.reduceBEq, Nat.reduceBNe, implies_true, forall_const, Q178, Q179, eq_self, Q180, reduceDIte, Q181, Q182, Q183, Q184, IntKind.bits, Q185, Q186, Q187, Q188, Q189, kPostKF_ret, kPostKF_normal, kPostX_ret, kPostX_normal, bsl, u3, a3, c3, b3, z3, k3, u5, a5, c5, b5, z5, k5, u23, a23, c23, b23, z23, k23, u28, a28, c28, b28, z28, k28, u31, a31, c31, b31, z31, k31, l31, u42, a42, c42, b42, z42, k42, l42, u58, a58, c58, b58, z58, k58, u60, a60, c60, b60, z60, k60, u69, a69, c69, b69, z69, k69, l69]
    refine nextK_it rfl rfl (encG_lt hL) hcl (fun e he hn => ?_) (fun hall => ?_)
    · obtain ⟨x, hx, rfl⟩ := encG_mem he
      simp only at hn
      have hfb := encG_born hL.bnd hx
      have he1 := List.mem_of_getElem? hg1
      have hf1 := findG e1.1.i e1.1.c M
      rw [findG_of hL.nod hg1] at hf1
      have hg' := encG_get hg1
      have n30 := gc30 x.1.i e1.1.i x.1.c e1.1.c (hL.ok x hx).1 (hL.ok e1 he1).1
      have n44 := bc44 x.1.s e1.1.s
      have n43 := bc43 (cmpZ x.1.s e1.1.s) (lexZ x.1.i e1.1.i (numM x.1.c) (numM e1.1.c))
      have hkk := gkeq e1.1.i e1.1.i e1.1.c e1.1.c
      obtain ⟨ix, hix⟩ := List.getElem?_of_mem hx
      have xin : x.2 ∈ seen ++ [x.2] := by simp
      have e1in : e1.2 ∈ seen ++ [x.2] := by simp [hb1]
      have xle : lt3 x.1 e1.1 → ∀ e ∈ M, e.2 ∈ seen ++ [x.2] → ¬ lt3 e.1 x.1 := by
        intro hle e he hb
        rcases List.mem_append.1 hb with h | h
        · have := hm1 e he h
          unfold lt3 ltE at *
          omega
        · simp at h; rw [map_inj hL.bnd he hx h]; unfold lt3 ltE; omega
      have ele : ¬ lt3 x.1 e1.1 → ∀ e ∈ M, e.2 ∈ seen ++ [x.2] → ¬ lt3 e.1 e1.1 := by
        intro hle e he hb
        rcases List.mem_append.1 hb with h | h
        · exact hm1 e he h
        · simp at h; rw [map_inj hL.bnd he hx h]; exact hle
      have hlt : (if cmpZ x.1.s e1.1.s ≠ 0 then cmpZ x.1.s e1.1.s else lexZ x.1.i e1.1.i (numM x.1.c) (numM e1.1.c)) < 0 ↔ lt3 x.1 e1.1 := by
        have hx1 := lexZ_lt x.1.i e1.1.i (numM x.1.c) (numM e1.1.c)
        unfold lt3 ltE
        split
        · rename_i hne; unfold cmpZ at *; repeat' split
          all_goals first | omega | (constructor <;> intro hh <;> omega)
        · rename_i hne; rw [hx1]; unfold cmpZ at hne
          have : x.1.s = e1.1.s := by
            by_cases h1 : x.1.s < e1.1.s
            · simp [h1] at hne
            · by_cases h2 : e1.1.s < x.1.s
              · simp [h1, h2] at hne
              · omega
          omega
      (have hwq := trivial; repeat' (first | simp (config := { maxSteps := 10000000, implicitDefEqProofs := false }) only [Q0, V.noimm, V.noimms, frzZs, frzZ, frzA, frzV, frzVs, frzBox, boxLen, Q1, Option.isSome, Q2, Q3, Q4, Q5, Q6, Q7, cond_true, cond_false, Q8, Q9, aopD, calW, flatV, Q10, Q11, stepX, amap, stepY, alookup, afind, aupdate, adelete, amlen, arange, ameq, mapOf, akeq, Q12, Q13, pl, Q14, Q15, Q16, Q17, V.mapT, V.mapTs, Q18, Option.bind, Q19, Q20, Q21, Q22, Q23, Q24, Q25, Q26, Q27, Q28, Q29, Q30, stepK, runK, Q31, Q32, Q33, Q34, Q35, Q36, guardD, Q37, Q38, Q39, Q40, Q41, stepE, runD, callD, Q42, Q43, Q44, Q45, Q46, Q47, Q48, Q49, Q50, Q51, Q52, Q53, Q54, Q55, Q56, Q57, Q58, Q59, Q60, Q61, Q62, Q63, Q64, Q65, Q66, Q67, Q68, Q69, Q70, Q71, Q72, Q73, compact, selB, Q74, Q75, Q76, Q77, callK, evS, Q78, Q79, ofVal, ofVals, scalar, aop, ares, mkRes, V.rn, V.rns, Q80, V.cells?, cellsAt, Go.Ai.part, aload, astore, setL, V.atom, abin, aun, intBin, shiftBin, aconv, fieldOf, aindexAddr, aindex, bound?, aslice, aarr, abuild, afill, alen, nilP, nilS, nilF, aeq, eqCells, eqCell, Go.Ai.known, strBin, abuiltin, aappend, abuildSlice, arowsFill, amakeSlice, acopy, minmax, rowsOf, numsT, notStr, isIntD, isByte, Q81, Q82, Q83, Q84, Q85, V.pz, V.pzs, T.toV, frz1, frz, scalT, scalTs, chunkT, Q86, Q87, Q88, Q89, Q90, Q91, Q92, Q93, Q94, List.range, List.range.loop, Q95, Q96, Q97, Q98, Q99, Q100, Q101, Q102, Q103, Q104, Q105, Q106, Q107, Q108, Q109, Q110, Q111, Q112, Q113, Q114, Q115, Q116, Q117, Q118, Q119, Q120, Q121, Q122, Q123, Q124, Q125, Q126, Q127, Q128, Q129, Q130, Int.reduceTDiv, Int.reduceTMod, Int.reduceFDiv, UInt8.reduceToNat, Nat.reduceAdd, Nat.reduceMul, Nat.reduceSub, Nat.reduceEqDiff, Nat.reduceLT, Nat.reduceLeDiff, Nat.reducePow, Nat.reduceDiv, Nat.reduceMod, Q131, Q132, Q133, Q134, Q135, Q136, Int.reduceLT, Int.reduceLE, Int.reduceAdd, Int.reduceMul, Int.reduceSub, Int.reduceNeg, Int.reduceToNat, Int.reducePow, Int.reduceEq, Q137, Q138, Q139, Q140, Q141, Q142, Q143, Q144, Q145, Q146, Q147, Q148, Q149, Q150, ↓reduceIte, ite_true, ite_false, if_true, if_false, Q151, Q152, Q153, Q154, Q155, Q156, Q157, Q158, Q159, Q160, Q161, ne_eq, Q162, Q163, Q164, Q165, Q166, Q167, Q168, Q169, Q170, Q171, Q172, Q173, Q174, Q175, reduceCtorEq, Q176, Q177, Int.reduceBEq, Int.reduceBNe, Nat.reduceBEq, Nat.reduceBNe, implies_true, forall_const, Q178, Q179, eq_self, Q180, reduceDIte, Q181, Q182, Q183, Q184, IntKind.bits, Q185, Q186, Q187, Q188, Q189, kPostKF_ret, kPostKF_normal, kPostX_ret, kPostX_normal, bsl, hwq, u3, a3, c3, b3, z3, k3, u5, a5, c5, b5, z5, k5, u23, a23, c23, b23, z23, k23, u28, a28, c28, b28, z28, k28, u31, a31, c31, b31, z31, k31, l31, u42, a42, c42, b42, z42, k42, l42, u58, a58, c58, b58, z58, k58, u60, a60, c60, b60, z60, k60, u69, a69, c69, b69, z69, k69, l69, hfb, hf1, hg', hkk, List.getLast?_append, List.getLast?_singleton, List.getLast?_nil, aentry, Option.some_or] | (refine awpL_loop 18 ?_; have hwq := trivial) | (refine condK_split ?_ ?_ <;> intro hwq) | (refine guardK_split ?_ ?_ <;> intro hwq) | (refine guardE_split ?_ ?_ <;> intro hwq) | (refine awp_drawI 5 [20, 15, 22, 23, 10] (List.range 19) [0, 1, 3, 7, 3, 19, 51, 115, 3, 499, 1011, 2047, 3, 3, 16383, 32767, 65535, 131071, 262143] (by decide +kernel) ?_; have hwq := trivial) | (refine awp_drawW [20, 15, 22, 23, 10] (by decide +kernel) ?_; have hwq := trivial) | (refine draw_plain n30 rfl (fun _ => rfl) ?_; have hwq := trivial) | (refine draw_plain n44 rfl (fun _ => rfl) ?_; have hwq := trivial) | (refine draw_data n43 rfl (V.les_refl _) (fun _ => rfl) (.inl rfl) ?_; have hwq := trivial) | fail))
      · simp only [decide_eq_true_eq] at hwq
        exact back x false _ _ [_, _] hx hn rfl rfl rfl rfl rfl ⟨rfl, ix, x, hix, xin, xle (hlt.1 hwq), rfl⟩
      · simp only [decide_eq_false_iff_not] at hwq
        exact back x false _ _ [_, _] hx hn rfl rfl rfl rfl rfl ⟨rfl, i1, e1, hg1, e1in, ele (fun h => hwq (hlt.2 h)), rfl⟩
    · have hm0 := hm1 e0 (List.mem_of_getElem? h0) (hall _ (List.mem_of_getElem? (encG_get h0)))
      have he1 := List.mem_of_getElem? hg1
      have hn : e1 = e0 := by
        by_cases h : e1 = e0
        · exact h
        · exact (hm0 (hmin e1 he1 h)).elim
      subst hn
      have hii : i1 = i0 := by
        have a1 := findG_of hL.nod hg1
        have a2 := findG_of hL.nod h0
        rw [a2] at a1
        exact (Option.some.inj a1).symm
      subst hii
      have hf1 := findG e1.1.i e1.1.c M
      rw [findG_of hL.nod hg1] at hf1
      have hkk := gkeq e1.1.i e1.1.i e1.1.c e1.1.c
      have hee := encG_erase M i1
      (have hwq := trivial; repeat' (first | simp (config := { maxSteps := 10000000, implicitDefEqProofs := false }) only [Q0, V.noimm, V.noimms, frzZs, frzZ, frzA, frzV, frzVs, frzBox, boxLen, Q1, Option.isSome, Q2, Q3, Q4, Q5, Q6, Q7, cond_true, cond_false, Q8, Q9, aopD, calW, flatV, Q10, Q11, stepX, amap, stepY, alookup, afind, aupdate, adelete, amlen, arange, ameq, mapOf, akeq, Q12, Q13, pl, Q14, Q15, Q16, Q17, V.mapT, V.mapTs, Q18, Option.bind, Q19, Q20, Q21, Q22, Q23, Q24, Q25, Q26, Q27, Q28, Q29, Q30, stepK, runK, Q31, Q32, Q33, Q34, Q35, Q36, guardD, Q37, Q38, Q39, Q40, Q41, stepE, runD, callD, Q42, Q43, Q44, Q45, Q46, Q47, Q48, Q49, Q50, Q51, Q52, Q53, Q54, Q55, Q56, Q57, Q58, Q59, Q60, Q61, Q62, Q63, Q64, Q65, Q66, Q67, Q68, Q69, Q70, Q71, Q72, Q73, compact, selB, Q74, Q75, Q76, Q77, callK, evS, Q78, Q79, ofVal, ofVals, scalar, aop, ares, mkRes, V.rn, V.rns, Q80, V.cells?, cellsAt, Go.Ai.part, aload, astore, setL, V.atom, abin, aun, intBin, shiftBin, aconv, fieldOf, aindexAddr, aindex, bound?, aslice, aarr, abuild, afill, alen, nilP, nilS, nilF, aeq, eqCells, eqCell, Go.Ai.known, strBin, abuiltin, aappend, abuildSlice, arowsFill, amakeSlice, acopy, minmax, rowsOf, numsT, notStr, isIntD, isByte, Q81, Q82, Q83, Q84, Q85, V.pz, V.pzs, T.toV, frz1, frz, scalT, scalTs, chunkT, Q86, Q87, Q88, Q89, Q90, Q91, Q92, Q93, Q94, List.range, List.range.loop, Q95, Q96, Q97, Q98, Q99, Q100, Q101, Q102, Q103, Q104, Q105, Q106, Q107, Q108, Q109, Q110, Q111, Q112, Q113, Q114, Q115, Q116, Q117, Q118, Q119, Q120, Q121, Q122, Q123, Q124, Q125, Q126, Q127, Q128, Q129, Q130, Int.reduceTDiv, Int.reduceTMod, Int.reduceFDiv, UInt8.reduceToNat, Nat.reduceAdd, Nat.reduceMul, Nat.reduceSub, Nat.reduceEqDiff, Nat.reduceLT, Nat.reduceLeDiff, Nat.reducePow, Nat.reduceDiv, Nat.reduceMod, Q131, Q132, Q133, Q134, Q135, Q136, Int.reduceLT, Int.reduceLE, Int.reduceAdd, Int.reduceMul, Int.reduceSub, Int.reduceNeg, Int.reduceToNat, Int.reducePow, Int.reduceEq, Q137, Q138, Q139, Q140, Q141, Q142, Q143, Q144, Q145, Q146, Q147, Q148, Q149, Q150, ↓reduceIte, ite_true, ite_false, if_true, if_false, Q151, Q152, Q153, Q154, Q155, Q156, Q157, Q158, Q159, Q160, Q161, ne_eq, Q162, Q163, Q164, Q165, Q166, Q167, Q168, Q169, Q170, Q171, Q172, Q173, Q174, Q175, reduceCtorEq, Q176, Q177, Int.reduceBEq, Int.reduceBNe, Nat.reduceBEq, Nat.reduceBNe, implies_true, forall_const, Q178, Q179, eq_self, Q180, reduceDIte, Q181, Q182, Q183, Q184, IntKind.bits, Q185, Q186, Q187, Q188, Q189, kPostKF_ret, kPostKF_normal, kPostX_ret, kPostX_normal, bsl, hwq, u3, a3, c3, b3, z3, k3, u5, a5, c5, b5, z5, k5, u23, a23, c23, b23, z23, k23, u28, a28, c28, b28, z28, k28, u31, a31, c31, b31, z31, k31, l31, u42, a42, c42, b42, z42, k42, l42, u58, a58, c58, b58, z58, k58, u60, a60, c60, b60, z60, k60, u69, a69, c69, b69, z69, k69, l69, hf1, hee, grn, hfmv, hkk] | (refine awpL_loop 18 ?_; have hwq := trivial) | (refine condK_split ?_ ?_ <;> intro hwq) | (refine guardK_split ?_ ?_ <;> intro hwq) | (refine guardE_split ?_ ?_ <;> intro hwq) | (refine awp_drawI 5 [20, 15, 22, 23, 10] (List.range 19) [0, 1, 3, 7, 3, 19, 51, 115, 3, 499, 1011, 2047, 3, 3, 16383, 32767, 65535, 131071, 262143] (by decide +kernel) ?_; have hwq := trivial) | (refine awp_drawW [20, 15, 22, 23, 10] (by decide +kernel) ?_; have hwq := trivial) | fail))
end Go.Ai
