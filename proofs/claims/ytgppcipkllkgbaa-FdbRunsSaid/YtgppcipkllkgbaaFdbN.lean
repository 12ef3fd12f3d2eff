/- Contracts of functions of the loaded program: called with data in the ranges that each names, it returns this value and writes to no old memory. -/
import Derived.Test.YtgppcipkllkgbaaFdbM
set_option linter.unusedVariables false
set_option linter.unusedSimpArgs false
set_option maxHeartbeats 4000000
set_option maxRecDepth 100000
namespace Go.Ai
open Go.Proofs

abbrev Ev := Ent × Nat
abbrev keyE (e : Ent) : V := keyV e.v e.m
abbrev plE (e : Ent) : V := plV e.p e.st e.t
def isK (v : Int) (m : Mc) (e : Ent) : Bool := decide (e.v = v ∧ e.m = m)
def encG (M : List Ev) : List (V × V × Nat) := M.map fun e => (keyE e.1, plE e.1, e.2)
theorem encG_flat (M : List Ev) : flatE (encG M) = true := by
  simp [flatE, encG, flatS]
theorem gkeq (i j : Int) (m n : Mc) : akeq Try.prog 68 (keyV i m) (keyV j n) = some (decide (i = j ∧ m = n)) := by
  have e : (i == j && (m.a == n.a && (m.b == n.b && (m.c == n.c && (m.d == n.d && (m.e == n.e && m.f == n.f)))))) = decide (i = j ∧ m = n) := by
    rw [mc_eq, Bool.decide_and]; rfl
  rw [← e]
  simp [akeq, a68, l68, eqCells, eqCell]
theorem isK_flip (i : Int) (m : Mc) (e : Ent) : decide (i = e.v ∧ m = e.m) = isK i m e := by
  unfold isK
  rw [Bool.eq_iff_iff]
  simp only [decide_eq_true_eq]
  constructor <;> (rintro ⟨rfl, rfl⟩; exact ⟨rfl, rfl⟩)
theorem findG (i : Int) (m : Mc) : ∀ M : List Ev, afind Try.prog 68 (keyV i m) (encG M) = some (M.findIdx? (fun e => isK i m e.1))
  | [] => rfl
  | e :: M => by
    have ih := findG i m M
    simp only [encG] at ih
    simp only [encG, List.map_cons, afind, gkeq, ih, Option.map_some, List.findIdx?_cons, isK_flip]
theorem encG_get {M : List Ev} {k : Nat} {e : Ev} (h : M[k]? = some e) : (encG M)[k]? = some (keyE e.1, plE e.1, e.2) := by simp [encG, h]
theorem encG_mem {M : List Ev} {e : V × V × Nat} (h : e ∈ encG M) : ∃ x ∈ M, e = (keyE x.1, plE x.1, x.2) := by
  simp only [encG, List.mem_map] at h
  obtain ⟨x, h1, h2⟩ := h
  exact ⟨x, h1, h2.symm⟩
theorem encG_erase (M : List Ev) (k : Nat) : (encG M).eraseIdx k = encG (M.eraseIdx k) := by
  unfold encG
  induction M generalizing k with
  | nil => rfl
  | cons x M ih => cases k with
    | zero => rfl
    | succ k => simp [ih]
theorem encG_set (M : List Ev) (k : Nat) (e : Ent) (b : Nat) : (encG M).set k (keyE e, plE e, b) = encG (M.set k (e, b)) := by simp [encG, List.map_set]
theorem encG_app (M : List Ev) (e : Ent) (b : Nat) : encG M ++ [(keyE e, plE e, b)] = encG (M ++ [(e, b)]) := by simp [encG]
theorem encG_len (M : List Ev) : (encG M).length = M.length := by simp [encG]
theorem gmt (M : List Ev) (f : Nat → Nat) (c : Nat) : Blk.mapT f (.mp (encG M) c) = .mp (encG M) c := mapT_mp (encG_flat M) f c
theorem grn (M : List Ev) (f : Nat → Option Nat) (c : Nat) : Blk.rn f (.mp (encG M) c) = some (.mp (encG M) c) := rn_mp (encG_flat M) f c
theorem gpz (M : List Ev) (f : List Nat) (c : Nat) : Blk.pz f (.mp (encG M) c) = .mp (encG M) c := pz_mp (encG_flat M) f c

def keyOf (e : Ent) : Int × Mc := (e.v, e.m)
def okE (e : Ent) : Prop := okM e.m ∧ (1 ≤ e.v ∧ e.v ≤ 4094) ∧ (0 ≤ e.p ∧ e.p ≤ 7) ∧ (0 ≤ e.t ∧ e.t ≤ 1099511627776)
structure GoodG (M : List Ev) (c : Nat) : Prop where
  ok : ∀ e ∈ M, okE e.1
  nod : (M.map (fun e => keyOf e.1)).Nodup
  bnd : (M.map (·.2)).Nodup
  lt : ∀ e ∈ M, e.2 < c
theorem GoodG.sub {M N : List Ev} {c : Nat} (h : GoodG M c) (hs : N.Sublist M) : GoodG N c :=
  ⟨fun e he => h.ok e (hs.subset he), h.nod.sublist (hs.map _), h.bnd.sublist (hs.map _), fun e he => h.lt e (hs.subset he)⟩
theorem encG_lt {M : List Ev} {c : Nat} (h : GoodG M c) : ∀ e ∈ encG M, e.2.2 < c := by
  intro e he
  obtain ⟨x, hx, rfl⟩ := encG_mem he
  exact h.lt x hx
theorem encG_born {M : List Ev} (h : (M.map (·.2)).Nodup) {e : Ev} (he : e ∈ M) : (encG M).find? (fun x => x.2.2 == e.2) = some (keyE e.1, plE e.1, e.2) := by
  induction M with
  | nil => simp at he
  | cons x M ih =>
    simp only [List.map_cons, List.nodup_cons] at h
    simp only [encG, List.map_cons, List.find?_cons]
    rcases List.mem_cons.1 he with rfl | he
    · simp
    · have hne : ¬ (x.2 = e.2) := fun hh => h.1 (hh ▸ List.mem_map.2 ⟨e, he, rfl⟩)
      simp only [beq_iff_eq, hne, Bool.false_eq_true, beq_eq_false_iff_ne.2 hne]
      exact ih h.2 he
theorem map_inj {α β : Type} {f : α → β} {L : List α} (h : (L.map f).Nodup) {x y : α} (hx : x ∈ L) (hy : y ∈ L) (e : f x = f y) : x = y := by
  induction L with
  | nil => simp at hx
  | cons z L ih =>
    simp only [List.map_cons, List.nodup_cons] at h
    rcases List.mem_cons.1 hx with hx' | hx' <;> rcases List.mem_cons.1 hy with hy' | hy'
    · rw [hx', hy']
    · exact (h.1 (List.mem_map.2 ⟨y, hy', by rw [← e, hx']⟩)).elim
    · exact (h.1 (List.mem_map.2 ⟨x, hx', by rw [e, hy']⟩)).elim
    · exact ih h.2 hx' hy'
theorem findG_of {M : List Ev} (h : (M.map (fun e => keyOf e.1)).Nodup) {k : Nat} {e : Ev} (he : M[k]? = some e) : M.findIdx? (fun x => isK e.1.v e.1.m x.1) = some k := by
  rw [List.findIdx?_eq_some_iff_getElem]
  have hk := (List.getElem?_eq_some_iff.1 he)
  have hkl := hk.1
  refine ⟨hk.1, by rw [hk.2]; simp [isK], fun j hj => ?_⟩
  intro hh
  simp only [isK, decide_eq_true_eq] at hh
  have hne := List.pairwise_iff_getElem.1 h j k (by simp; omega) (by simp; exact hk.1) hj
  simp only [List.getElem_map, hk.2] at hne
  exact hne (by simp [keyOf, hh])
theorem gmeas {M : List Ev} {seen : List Nat} {x : Ev} (hx : x ∈ M) (hn : x.2 ∉ seen) : (M.filter fun e => decide (e.2 ∉ seen ++ [x.2])).length < (M.filter fun e => decide (e.2 ∉ seen)).length := by
  induction M with
  | nil => simp at hx
  | cons y M ih =>
    have hle : (M.filter fun e => decide (e.2 ∉ seen ++ [x.2])).length ≤ (M.filter fun e => decide (e.2 ∉ seen)).length := by
      clear ih hx
      induction M with
      | nil => simp
      | cons z M ih =>
        simp only [List.filter_cons]
        by_cases h1 : z.2 ∈ seen
        · simp [h1] at ih ⊢; exact ih
        · by_cases h2 : z.2 = x.2
          · simp [h1, h2, hn] at ih ⊢; omega
          · simp [h1, h2] at ih ⊢; exact ih
    simp only [List.filter_cons]
    rcases List.mem_cons.1 hx with rfl | hx
    · simp [hn] at hle ⊢; omega
    · have := ih hx
      by_cases h1 : y.2 ∈ seen
      · simp [h1] at this ⊢; exact this
      · by_cases h2 : y.2 = x.2
        · simp [h1, h2, hn] at hle ⊢; omega
        · simp [h1, h2] at this ⊢; exact this

theorem perm_erase {α : Type} {L : List α} {e : α} {j : Nat} (hj : L[j]? = some e) : L.Perm (e :: L.eraseIdx j) := by
  induction L generalizing j with
  | nil => simp at hj
  | cons x L ih =>
    cases j with
    | zero => simp at hj; subst hj; exact List.Perm.refl _
    | succ j =>
      simp at hj
      rw [List.eraseIdx_cons_succ]
      exact ((ih hj).cons x).trans (List.Perm.swap e x _)
theorem perm_set {α : Type} {L : List α} {e y : α} {j : Nat} (hj : L[j]? = some e) : (L.set j y).Perm (y :: L.eraseIdx j) := by
  induction L generalizing j with
  | nil => simp at hj
  | cons x L ih =>
    cases j with
    | zero => simp at hj; exact List.Perm.refl _
    | succ j =>
      simp at hj
      rw [List.set_cons_succ, List.eraseIdx_cons_succ]
      exact ((ih hj).cons x).trans (List.Perm.swap y x _)
/-! ### Which is the elder -/
def lt3 (x y : Ent) : Prop := x.t < y.t ∨ (x.t = y.t ∧ ltE x y)
abbrev hG (P R A : Int) (M : List Ev) (c : Nat) : List Blk := [.box [vI P, vI R, vI A, .mref 1] false, .mp (encG M) c]
theorem gq31 (P R A : Int) (M : List Ev) (c : Nat) : AC Try.prog 31 [.ptr 0 0 0] (hG P R A M c) (eqS (vB false) (hG P R A M c)) := by
  refine AC_heap orders [0, 1] Try.func31 rfl (by kernel_rfl) (by kernel_rfl) Try.ntmps31 (by simp) ?_
  unfold Try.f31
  (have hwq := trivial; repeat' (first | simp (config := { maxSteps := 10000000, implicitDefEqProofs := false }) only [QH, QR, V.noimm, V.noimms, frzZs, frzZ, frzA, frzV, frzVs, frzBox, boxLen, Option.isSome, cond_true, cond_false, aopD, calW, flatV, stepX, amap, stepY, alookup, afind, aupdate, adelete, amlen, arange, ameq, mapOf, akeq, pl, V.mapT, V.mapTs, Option.bind, stepK, runK, guardD, stepE, runD, callD, compact, selB, callK, evS, ofVal, ofVals, scalar, aop, ares, mkRes, V.rn, V.rns, V.cells?, cellsAt, Go.Ai.part, aload, astore, setL, V.atom, abin, aun, intBin, shiftBin, aconv, fieldOf, aindexAddr, aindex, bound?, aslice, aarr, abuild, afill, alen, nilP, nilS, nilF, aeq, eqCells, eqCell, Go.Ai.known, strBin, abuiltin, aappend, abuildSlice, arowsFill, amakeSlice, acopy, minmax, rowsOf, numsT, notStr, isIntD, isByte, V.pz, V.pzs, T.toV, frz1, frz, scalT, scalTs, chunkT, List.range, List.range.loop, Int.reduceTDiv, Int.reduceTMod, Int.reduceFDiv, UInt8.reduceToNat, Nat.reduceAdd, Nat.reduceMul, Nat.reduceSub, Nat.reduceEqDiff, Nat.reduceLT, Nat.reduceLeDiff, Nat.reducePow, Nat.reduceDiv, Nat.reduceMod, Int.reduceLT, Int.reduceLE, Int.reduceAdd, Int.reduceMul, Int.reduceSub, Int.reduceNeg, Int.reduceToNat, Int.reducePow, Int.reduceEq, ↓reduceIte, ite_true, ite_false, if_true, if_false, ne_eq, reduceCtorEq, Int.reduceBEq, Int.reduceBNe, Nat.reduceBEq, Nat.reduceBNe, implies_true, forall_const, eq_self, reduceDIte, IntKind.bits, kPostKF_ret, kPostKF_normal, kPostX_ret, kPostX_normal, bsl, hwq, u3, a3, c3, b3, z3, k3, u4, a4, c4, b4, z4, k4, u5, a5, c5, b5, z5, k5, u23, a23, c23, b23, z23, k23, l23, u25, a25, c25, b25, z25, k25, u60, a60, c60, b60, z60, k60, u62, a62, c62, b62, z62, k62, u68, a68, c68, b68, z68, k68, l68, u70, a70, c70, b70, z70, k70, l70, grn] | (refine awpL_loop 18 ?_; have hwq := trivial) | (refine condK_split ?_ ?_ <;> intro hwq) | (refine guardK_split ?_ ?_ <;> intro hwq) | (refine guardE_split ?_ ?_ <;> intro hwq) | (refine awp_drawW [] (by decide +kernel) ?_; have hwq := trivial) | fail))
theorem gq12 (P R A : Int) (M : List Ev) (c : Nat) : AC Try.prog 12 [.ptr 0 0 0] (hG P R A M c) (eqS (vI (M.length : Nat)) (hG P R A M c)) := by
  have hel := encG_len M
  have n31 := gq31 P R A M c
  refine AC_heap orders [0, 1] Try.func12 rfl (by kernel_rfl) (by kernel_rfl) Try.ntmps12 (by simp) ?_
  unfold Try.f12
  (have hwq := trivial; repeat' (first | simp (config := { maxSteps := 10000000, implicitDefEqProofs := false }) only [QH, QR, V.noimm, V.noimms, frzZs, frzZ, frzA, frzV, frzVs, frzBox, boxLen, Option.isSome, cond_true, cond_false, aopD, calW, flatV, stepX, amap, stepY, alookup, afind, aupdate, adelete, amlen, arange, ameq, mapOf, akeq, pl, V.mapT, V.mapTs, Option.bind, stepK, runK, guardD, stepE, runD, callD, compact, selB, callK, evS, ofVal, ofVals, scalar, aop, ares, mkRes, V.rn, V.rns, V.cells?, cellsAt, Go.Ai.part, aload, astore, setL, V.atom, abin, aun, intBin, shiftBin, aconv, fieldOf, aindexAddr, aindex, bound?, aslice, aarr, abuild, afill, alen, nilP, nilS, nilF, aeq, eqCells, eqCell, Go.Ai.known, strBin, abuiltin, aappend, abuildSlice, arowsFill, amakeSlice, acopy, minmax, rowsOf, numsT, notStr, isIntD, isByte, V.pz, V.pzs, T.toV, frz1, frz, scalT, scalTs, chunkT, List.range, List.range.loop, Int.reduceTDiv, Int.reduceTMod, Int.reduceFDiv, UInt8.reduceToNat, Nat.reduceAdd, Nat.reduceMul, Nat.reduceSub, Nat.reduceEqDiff, Nat.reduceLT, Nat.reduceLeDiff, Nat.reducePow, Nat.reduceDiv, Nat.reduceMod, Int.reduceLT, Int.reduceLE, Int.reduceAdd, Int.reduceMul, Int.reduceSub, Int.reduceNeg, Int.reduceToNat, Int.reducePow, Int.reduceEq, ↓reduceIte, ite_true, ite_false, if_true, if_false, ne_eq, reduceCtorEq, Int.reduceBEq, Int.reduceBNe, Nat.reduceBEq, Nat.reduceBNe, implies_true, forall_const, eq_self, reduceDIte, IntKind.bits, kPostKF_ret, kPostKF_normal, kPostX_ret, kPostX_normal, bsl, hwq, u3, a3, c3, b3, z3, k3, u4, a4, c4, b4, z4, k4, u5, a5, c5, b5, z5, k5, u23, a23, c23, b23, z23, k23, l23, u25, a25, c25, b25, z25, k25, u60, a60, c60, b60, z60, k60, u62, a62, c62, b62, z62, k62, u68, a68, c68, b68, z68, k68, l68, u70, a70, c70, b70, z70, k70, l70, grn, gmt, hel] | (refine awpL_loop 18 ?_; have hwq := trivial) | (refine condK_split ?_ ?_ <;> intro hwq) | (refine guardK_split ?_ ?_ <;> intro hwq) | (refine guardE_split ?_ ?_ <;> intro hwq) | (refine awp_drawW [] (by decide +kernel) ?_; have hwq := trivial) | (refine call_at [0, 1] n31 (by simp) (by decide) rfl rfl (by simp [gmt, mapT_box, V.mapTs, V.mapT, pl]) (V.les_refl _) ?_; have hwq := trivial) | fail))

/-- The evicting loop's head. -/
def EvG (P R A : Int) (M : List Ev) (c : Nat) (k : Nat) (S : St) : Prop :=
  ∃ (mv seen : List Nat) (last : Nat) (old : List V) (found : Bool), S = ⟨tms [(0, .ptr 0 0 0), (3, .ptr 2 0 0), (4, vB found), (22, .ptr 3 0 0)], [.box [vI P, vI R, vI A, .mref 1] false, .mp (encG M) c, .box old false, .it (some 1) c seen last], mv⟩ ∧
    (∀ t ∈ mv, 2 ≤ t) ∧ c ≤ last ∧ k = (M.filter fun e => decide (e.2 ∉ seen)).length ∧
    ((found = false ∧ (∀ e ∈ M, e.2 ∈ seen → e.1.st = true) ∧ old = [vI 0, .s (.int .u8 0), .s (.int .u8 0), .s (.int .u8 0), .s (.int .u8 0), .s (.int .u8 0), .s (.int .u8 0)]) ∨
     (found = true ∧ ∃ (i0 : Nat) (e0 : Ev), M[i0]? = some e0 ∧ e0.1.st = false ∧ e0.2 ∈ seen ∧ (∀ e ∈ M, e.2 ∈ seen → e.1.st = false → ¬ lt3 e.1 e0.1) ∧ old = [vI e0.1.v, .s (.int .u8 e0.1.m.a), .s (.int .u8 e0.1.m.b), .s (.int .u8 e0.1.m.c), .s (.int .u8 e0.1.m.d), .s (.int .u8 e0.1.m.e), .s (.int .u8 e0.1.m.f)]))

theorem gq33t (P R A : Int) (M : List Ev) (c : Nat) (hr : (M.length : Int) < R) : AC Try.prog 33 [.ptr 0 0 0] (hG P R A M c) (eqS (vB true) (hG P R A M c)) := by
  have hel := encG_len M
  refine AC_heap orders [0, 1] Try.func33 rfl (by kernel_rfl) (by kernel_rfl) Try.ntmps33 (by simp) ?_
  unfold Try.f33
  (have hwq := trivial; repeat' (first | simp (config := { maxSteps := 10000000, implicitDefEqProofs := false }) only [QH, QR, V.noimm, V.noimms, frzZs, frzZ, frzA, frzV, frzVs, frzBox, boxLen, Option.isSome, cond_true, cond_false, aopD, calW, flatV, stepX, amap, stepY, alookup, afind, aupdate, adelete, amlen, arange, ameq, mapOf, akeq, pl, V.mapT, V.mapTs, Option.bind, stepK, runK, guardD, stepE, runD, callD, compact, selB, callK, evS, ofVal, ofVals, scalar, aop, ares, mkRes, V.rn, V.rns, V.cells?, cellsAt, Go.Ai.part, aload, astore, setL, V.atom, abin, aun, intBin, shiftBin, aconv, fieldOf, aindexAddr, aindex, bound?, aslice, aarr, abuild, afill, alen, nilP, nilS, nilF, aeq, eqCells, eqCell, Go.Ai.known, strBin, abuiltin, aappend, abuildSlice, arowsFill, amakeSlice, acopy, minmax, rowsOf, numsT, notStr, isIntD, isByte, V.pz, V.pzs, T.toV, frz1, frz, scalT, scalTs, chunkT, List.range, List.range.loop, Int.reduceTDiv, Int.reduceTMod, Int.reduceFDiv, UInt8.reduceToNat, Nat.reduceAdd, Nat.reduceMul, Nat.reduceSub, Nat.reduceEqDiff, Nat.reduceLT, Nat.reduceLeDiff, Nat.reducePow, Nat.reduceDiv, Nat.reduceMod, Int.reduceLT, Int.reduceLE, Int.reduceAdd, Int.reduceMul, Int.reduceSub, Int.reduceNeg, Int.reduceToNat, Int.reducePow, Int.reduceEq, ↓reduceIte, ite_true, ite_false, if_true, if_false, ne_eq, reduceCtorEq, Int.reduceBEq, Int.reduceBNe, Nat.reduceBEq, Nat.reduceBNe, implies_true, forall_const, eq_self, reduceDIte, IntKind.bits, kPostKF_ret, kPostKF_normal, kPostX_ret, kPostX_normal, bsl, hwq, u3, a3, c3, b3, z3, k3, u4, a4, c4, b4, z4, k4, u5, a5, c5, b5, z5, k5, u23, a23, c23, b23, z23, k23, l23, u25, a25, c25, b25, z25, k25, u60, a60, c60, b60, z60, k60, u62, a62, c62, b62, z62, k62, u68, a68, c68, b68, z68, k68, l68, u70, a70, c70, b70, z70, k70, l70, grn, gmt, hel, hr] | (refine condK_split ?_ ?_ <;> intro hwq) | (refine guardK_split ?_ ?_ <;> intro hwq) | (refine guardE_split ?_ ?_ <;> intro hwq) | (refine awp_drawW [] (by decide +kernel) ?_; have hwq := trivial) | fail))
/-- Who goes, if anybody. -/
def Vic (M : List Ev) : Option Nat → Prop
  | none => ∀ e ∈ M, e.1.st = true
  | some i0 => ∃ e0, M[i0]? = some e0 ∧ e0.1.st = false ∧ ∀ e ∈ M, e.1.st = false → e ≠ e0 → lt3 e0.1 e.1
def without (M : List Ev) : Option Nat → List Ev
  | none => M
  | some k => M.eraseIdx k
theorem gq33 (P R A : Int) (M : List Ev) (c : Nat) (hL : GoodG M c) (hr : ¬ (M.length : Int) < R) (w : Option Nat) (hw : Vic M w) :
    AC Try.prog 33 [.ptr 0 0 0] (hG P R A M c) (eqS (vB w.isSome) (hG P R A (without M w) c)) := by
  have hel := encG_len M
  refine AC_heap orders [0, 1] Try.func33 rfl (by kernel_rfl) (by kernel_rfl) Try.ntmps33 (by simp) ?_
  unfold Try.f33
  (have hwq := trivial; repeat' (first | simp (config := { maxSteps := 10000000, implicitDefEqProofs := false }) only [QH, QR, V.noimm, V.noimms, frzZs, frzZ, frzA, frzV, frzVs, frzBox, boxLen, Option.isSome, cond_true, cond_false, aopD, calW, flatV, stepX, amap, stepY, alookup, afind, aupdate, adelete, amlen, arange, ameq, mapOf, akeq, pl, V.mapT, V.mapTs, Option.bind, stepK, runK, guardD, stepE, runD, callD, compact, selB, callK, evS, ofVal, ofVals, scalar, aop, ares, mkRes, V.rn, V.rns, V.cells?, cellsAt, Go.Ai.part, aload, astore, setL, V.atom, abin, aun, intBin, shiftBin, aconv, fieldOf, aindexAddr, aindex, bound?, aslice, aarr, abuild, afill, alen, nilP, nilS, nilF, aeq, eqCells, eqCell, Go.Ai.known, strBin, abuiltin, aappend, abuildSlice, arowsFill, amakeSlice, acopy, minmax, rowsOf, numsT, notStr, isIntD, isByte, V.pz, V.pzs, T.toV, frz1, frz, scalT, scalTs, chunkT, List.range, List.range.loop, Int.reduceTDiv, Int.reduceTMod, Int.reduceFDiv, UInt8.reduceToNat, Nat.reduceAdd, Nat.reduceMul, Nat.reduceSub, Nat.reduceEqDiff, Nat.reduceLT, Nat.reduceLeDiff, Nat.reducePow, Nat.reduceDiv, Nat.reduceMod, Int.reduceLT, Int.reduceLE, Int.reduceAdd, Int.reduceMul, Int.reduceSub, Int.reduceNeg, Int.reduceToNat, Int.reducePow, Int.reduceEq, ↓reduceIte, ite_true, ite_false, if_true, if_false, ne_eq, reduceCtorEq, Int.reduceBEq, Int.reduceBNe, Nat.reduceBEq, Nat.reduceBNe, implies_true, forall_const, eq_self, reduceDIte, IntKind.bits, kPostKF_ret, kPostKF_normal, kPostX_ret, kPostX_normal, bsl, hwq, u3, a3, c3, b3, z3, k3, u4, a4, c4, b4, z4, k4, u5, a5, c5, b5, z5, k5, u23, a23, c23, b23, z23, k23, l23, u25, a25, c25, b25, z25, k25, u60, a60, c60, b60, z60, k60, u62, a62, c62, b62, z62, k62, u68, a68, c68, b68, z68, k68, l68, u70, a70, c70, b70, z70, k70, l70, grn, gmt, hel, hr] | (refine condK_split ?_ ?_ <;> intro hwq) | (refine guardK_split ?_ ?_ <;> intro hwq) | (refine guardE_split ?_ ?_ <;> intro hwq) | (refine awp_drawW [] (by decide +kernel) ?_; have hwq := trivial) | fail))
  refine awp_loopK (EvG P R A M c) (M.filter fun e => decide (e.2 ∉ ([] : List Nat))).length _ (Weak.cutI 4 [0, 3, 4, 22] ?_ ?_) ⟨_, [], c, _, false, rfl, by simp, Nat.le_refl _, rfl, .inl ⟨rfl, by simp, rfl⟩⟩ ?_
  · simp (config := { maxSteps := 10000000, implicitDefEqProofs := false }) only [QH, Option.isSome, cond_true, cond_false, Option.bind, selB, V.rn, V.rns, Go.Ai.known, V.pz, V.pzs, T.toV, frz1, List.range, List.range.loop, Nat.reduceAdd, Nat.reduceMul, Nat.reduceSub, Nat.reduceEqDiff, Nat.reduceLT, Nat.reduceLeDiff, Nat.reducePow, Nat.reduceDiv, Nat.reduceMod, Int.reduceLT, Int.reduceLE, Int.reduceAdd, Int.reduceMul, Int.reduceSub, Int.reduceNeg, Int.reducePow, Int.reduceEq, ↓reduceIte, ite_true, ite_false, if_true, if_false, ne_eq, reduceCtorEq, Int.reduceBEq, Int.reduceBNe, Nat.reduceBEq, Nat.reduceBNe, implies_true, forall_const, eq_self, IntKind.bits, upd_tmsS, selT_cons, selT_nil]
  · simp (config := { maxSteps := 10000000, implicitDefEqProofs := false }) only [QH, Option.isSome, cond_true, cond_false, Option.bind, selB, V.rn, V.rns, Go.Ai.known, V.pz, V.pzs, T.toV, frz1, List.range, List.range.loop, Nat.reduceAdd, Nat.reduceMul, Nat.reduceSub, Nat.reduceEqDiff, Nat.reduceLT, Nat.reduceLeDiff, Nat.reducePow, Nat.reduceDiv, Nat.reduceMod, Int.reduceLT, Int.reduceLE, Int.reduceAdd, Int.reduceMul, Int.reduceSub, Int.reduceNeg, Int.reducePow, Int.reduceEq, ↓reduceIte, ite_true, ite_false, if_true, if_false, ne_eq, reduceCtorEq, Int.reduceBEq, Int.reduceBNe, Nat.reduceBEq, Nat.reduceBNe, implies_true, forall_const, eq_self, IntKind.bits, upd_tmsS, selT_cons, selT_nil, grn, rn_its]
  rintro k S ⟨mv, seen, last, old, found, rfl, hmv, hcl, rfl, hst⟩
  have hfmv : mv.filter (fun x => decide (x < 2)) = [] := by
    rw [List.filter_eq_nil_iff]
    intro t ht
    have := hmv t ht
    simp
    omega
  have hmv' : ∀ (n : Nat) (t : Nat), t ∈ mv ++ List.range' 4 n → 2 ≤ t := by
    intro n t ht
    rcases List.mem_append.1 ht with h1 | h1
    · exact hmv t h1
    · have := (List.mem_range'_1.1 h1).1; omega
  have seenIn : ∀ {x e : Ev}, x ∈ M → e ∈ M → e.2 ∈ seen ++ [x.2] → e.2 ∈ seen ∨ e = x := by
    intro x e hx he hb
    rcases List.mem_append.1 hb with h | h
    · exact .inl h
    · simp at h; exact .inr (map_inj hL.bnd he hx h)
  rcases hst with ⟨rfl, hall0, rfl⟩ | ⟨rfl, i1, e1, hg1, hs1, hb1, hm1, rfl⟩
  · simp (config := { maxSteps := 10000000, implicitDefEqProofs := false }) only [QH, QR, V.noimm, V.noimms, frzZs, frzZ, frzA, frzV, frzVs, frzBox, boxLen, Option.isSome, cond_true, cond_false, aopD, calW, flatV, stepX, amap, stepY, alookup, afind, aupdate, adelete, amlen, arange, ameq, mapOf, akeq, pl, V.mapT, V.mapTs, Option.bind, stepK, runK, guardD, stepE, runD, callD, compact, selB, callK, evS, ofVal, ofVals, scalar, aop, ares, mkRes, V.rn, V.rns, V.cells?, cellsAt, Go.Ai.part, aload, astore, setL, V.atom, abin, aun, intBin, shiftBin, aconv, fieldOf, aindexAddr, aindex, bound?, aslice, aarr, abuild, afill, alen, nilP, nilS, nilF, aeq, eqCells, eqCell, Go.Ai.known, strBin, abuiltin, aappend, abuildSlice, arowsFill, amakeSlice, acopy, minmax, rowsOf, numsT, notStr, isIntD, isByte, V.pz, V.pzs, T.toV, frz1, frz, scalT, scalTs, chunkT, List.range, List.range.loop, Int.reduceTDiv, Int.reduceTMod, Int.reduceFDiv, UInt8.reduceToNat, Nat.reduceAdd, Nat.reduceMul, Nat.reduceSub, Nat.reduceEqDiff, Nat.reduceLT, Nat.reduceLeDiff, Nat.reducePow, Nat.reduceDiv, Nat.reduceMod, Int.reduceLT, Int.reduceLE, Int.reduceAdd, Int.reduceMul, Int.reduceSub, Int.reduceNeg, Int.reduceToNat, Int.reducePow, Int.reduceEq, ↓reduceIte, ite_true, ite_false, if_true, if_false, ne_eq, reduceCtorEq, Int.reduceBEq, Int.reduceBNe, Nat.reduceBEq, Nat.reduceBNe, implies_true, forall_const, eq_self, reduceDIte, IntKind.bits, kPostKF_ret, kPostKF_normal, kPostX_ret, kPostX_normal, bsl, u3, a3, c3, b3, z3, k3, u4, a4, c4, b4, z4, k4, u5, a5, c5, b5, z5, k5, u23, a23, c23, b23, z23, k23, l23, u25, a25, c25, b25, z25, k25, u60, a60, c60, b60, z60, k60, u62, a62, c62, b62, z62, k62, u68, a68, c68, b68, z68, k68, l68, u70, a70, c70, b70, z70, k70, l70]
    refine nextK_it rfl rfl (encG_lt hL) hcl (fun e he hn => ?_) (fun hall => ?_)
    · obtain ⟨x, hx, rfl⟩ := encG_mem he
      simp only at hn
      have hfb := encG_born hL.bnd hx
      have hkk := gkeq 0 0 ⟨0, 0, 0, 0, 0, 0⟩ ⟨0, 0, 0, 0, 0, 0⟩
      have hf0 := findG 0 ⟨0, 0, 0, 0, 0, 0⟩ M
      have hfn : M.findIdx? (fun e => isK 0 ⟨0, 0, 0, 0, 0, 0⟩ e.1) = none := by
        rw [List.findIdx?_eq_none_iff]
        intro e he
        have := (hL.ok e he).2.1
        simp [isK]
        omega
      rw [hfn] at hf0
      cases hxs : x.1.st
      · (have hwq := trivial; repeat' (first | simp (config := { maxSteps := 10000000, implicitDefEqProofs := false }) only [QH, QR, V.noimm, V.noimms, frzZs, frzZ, frzA, frzV, frzVs, frzBox, boxLen, Option.isSome, cond_true, cond_false, aopD, calW, flatV, stepX, amap, stepY, alookup, afind, aupdate, adelete, amlen, arange, ameq, mapOf, akeq, pl, V.mapT, V.mapTs, Option.bind, stepK, runK, guardD, stepE, runD, callD, compact, selB, callK, evS, ofVal, ofVals, scalar, aop, ares, mkRes, V.rn, V.rns, V.cells?, cellsAt, Go.Ai.part, aload, astore, setL, V.atom, abin, aun, intBin, shiftBin, aconv, fieldOf, aindexAddr, aindex, bound?, aslice, aarr, abuild, afill, alen, nilP, nilS, nilF, aeq, eqCells, eqCell, Go.Ai.known, strBin, abuiltin, aappend, abuildSlice, arowsFill, amakeSlice, acopy, minmax, rowsOf, numsT, notStr, isIntD, isByte, V.pz, V.pzs, T.toV, frz1, frz, scalT, scalTs, chunkT, List.range, List.range.loop, Int.reduceTDiv, Int.reduceTMod, Int.reduceFDiv, UInt8.reduceToNat, Nat.reduceAdd, Nat.reduceMul, Nat.reduceSub, Nat.reduceEqDiff, Nat.reduceLT, Nat.reduceLeDiff, Nat.reducePow, Nat.reduceDiv, Nat.reduceMod, Int.reduceLT, Int.reduceLE, Int.reduceAdd, Int.reduceMul, Int.reduceSub, Int.reduceNeg, Int.reduceToNat, Int.reducePow, Int.reduceEq, ↓reduceIte, ite_true, ite_false, if_true, if_false, ne_eq, reduceCtorEq, Int.reduceBEq, Int.reduceBNe, Nat.reduceBEq, Nat.reduceBNe, implies_true, forall_const, eq_self, reduceDIte, IntKind.bits, kPostKF_ret, kPostKF_normal, kPostX_ret, kPostX_normal, bsl, hwq, u3, a3, c3, b3, z3, k3, u4, a4, c4, b4, z4, k4, u5, a5, c5, b5, z5, k5, u23, a23, c23, b23, z23, k23, l23, u25, a25, c25, b25, z25, k25, u60, a60, c60, b60, z60, k60, u62, a62, c62, b62, z62, k62, u68, a68, c68, b68, z68, k68, l68, u70, a70, c70, b70, z70, k70, l70, hfb, hxs, hkk, hf0, List.getLast?_append, List.getLast?_singleton, List.getLast?_nil, aentry, Option.some_or] | (refine awpL_loop 18 ?_; have hwq := trivial) | (refine condK_split ?_ ?_ <;> intro hwq) | (refine guardK_split ?_ ?_ <;> intro hwq) | (refine guardE_split ?_ ?_ <;> intro hwq) | (refine awp_drawW [] (by decide +kernel) ?_; have hwq := trivial) | fail))
        obtain ⟨ix, hix⟩ := List.getElem?_of_mem hx
        refine ⟨_, _, gmeas hx hn, Weak.cutI 4 [0, 3, 4, 22] ?_ ?_, _, seen ++ [x.2], c, _, true, rfl, hmv' _, Nat.le_refl _, rfl, .inr ⟨rfl, ix, x, hix, hxs, by simp, ?_, rfl⟩⟩
        · simp (config := { maxSteps := 10000000, implicitDefEqProofs := false }) only [QH, Option.isSome, cond_true, cond_false, Option.bind, selB, V.rn, V.rns, Go.Ai.known, V.pz, V.pzs, T.toV, frz1, List.range, List.range.loop, Nat.reduceAdd, Nat.reduceMul, Nat.reduceSub, Nat.reduceEqDiff, Nat.reduceLT, Nat.reduceLeDiff, Nat.reducePow, Nat.reduceDiv, Nat.reduceMod, Int.reduceLT, Int.reduceLE, Int.reduceAdd, Int.reduceMul, Int.reduceSub, Int.reduceNeg, Int.reducePow, Int.reduceEq, ↓reduceIte, ite_true, ite_false, if_true, if_false, ne_eq, reduceCtorEq, Int.reduceBEq, Int.reduceBNe, Nat.reduceBEq, Nat.reduceBNe, implies_true, forall_const, eq_self, IntKind.bits, upd_tmsS, selT_cons, selT_nil]
        · simp (config := { maxSteps := 10000000, implicitDefEqProofs := false }) only [QH, Option.isSome, cond_true, cond_false, Option.bind, selB, V.rn, V.rns, Go.Ai.known, V.pz, V.pzs, T.toV, frz1, List.range, List.range.loop, Nat.reduceAdd, Nat.reduceMul, Nat.reduceSub, Nat.reduceEqDiff, Nat.reduceLT, Nat.reduceLeDiff, Nat.reducePow, Nat.reduceDiv, Nat.reduceMod, Int.reduceLT, Int.reduceLE, Int.reduceAdd, Int.reduceMul, Int.reduceSub, Int.reduceNeg, Int.reducePow, Int.reduceEq, ↓reduceIte, ite_true, ite_false, if_true, if_false, ne_eq, reduceCtorEq, Int.reduceBEq, Int.reduceBNe, Nat.reduceBEq, Nat.reduceBNe, implies_true, forall_const, eq_self, IntKind.bits, upd_tmsS, selT_cons, selT_nil, grn, rn_its]
        · intro e he hb hes
          rcases seenIn hx he hb with h | rfl
          · rw [hall0 e he h] at hes; cases hes
          · unfold lt3 ltE; omega
      · (have hwq := trivial; repeat' (first | simp (config := { maxSteps := 10000000, implicitDefEqProofs := false }) only [QH, QR, V.noimm, V.noimms, frzZs, frzZ, frzA, frzV, frzVs, frzBox, boxLen, Option.isSome, cond_true, cond_false, aopD, calW, flatV, stepX, amap, stepY, alookup, afind, aupdate, adelete, amlen, arange, ameq, mapOf, akeq, pl, V.mapT, V.mapTs, Option.bind, stepK, runK, guardD, stepE, runD, callD, compact, selB, callK, evS, ofVal, ofVals, scalar, aop, ares, mkRes, V.rn, V.rns, V.cells?, cellsAt, Go.Ai.part, aload, astore, setL, V.atom, abin, aun, intBin, shiftBin, aconv, fieldOf, aindexAddr, aindex, bound?, aslice, aarr, abuild, afill, alen, nilP, nilS, nilF, aeq, eqCells, eqCell, Go.Ai.known, strBin, abuiltin, aappend, abuildSlice, arowsFill, amakeSlice, acopy, minmax, rowsOf, numsT, notStr, isIntD, isByte, V.pz, V.pzs, T.toV, frz1, frz, scalT, scalTs, chunkT, List.range, List.range.loop, Int.reduceTDiv, Int.reduceTMod, Int.reduceFDiv, UInt8.reduceToNat, Nat.reduceAdd, Nat.reduceMul, Nat.reduceSub, Nat.reduceEqDiff, Nat.reduceLT, Nat.reduceLeDiff, Nat.reducePow, Nat.reduceDiv, Nat.reduceMod, Int.reduceLT, Int.reduceLE, Int.reduceAdd, Int.reduceMul, Int.reduceSub, Int.reduceNeg, Int.reduceToNat, Int.reducePow, Int.reduceEq, ↓reduceIte, ite_true, ite_false, if_true, if_false, ne_eq, reduceCtorEq, Int.reduceBEq, Int.reduceBNe, Nat.reduceBEq, Nat.reduceBNe, implies_true, forall_const, eq_self, reduceDIte, IntKind.bits, kPostKF_ret, kPostKF_normal, kPostX_ret, kPostX_normal, bsl, hwq, u3, a3, c3, b3, z3, k3, u4, a4, c4, b4, z4, k4, u5, a5, c5, b5, z5, k5, u23, a23, c23, b23, z23, k23, l23, u25, a25, c25, b25, z25, k25, u60, a60, c60, b60, z60, k60, u62, a62, c62, b62, z62, k62, u68, a68, c68, b68, z68, k68, l68, u70, a70, c70, b70, z70, k70, l70, hfb, hxs, List.getLast?_append, List.getLast?_singleton, List.getLast?_nil, aentry, Option.some_or] | (refine awpL_loop 18 ?_; have hwq := trivial) | (refine condK_split ?_ ?_ <;> intro hwq) | (refine guardK_split ?_ ?_ <;> intro hwq) | (refine guardE_split ?_ ?_ <;> intro hwq) | (refine awp_drawW [] (by decide +kernel) ?_; have hwq := trivial) | fail))
        refine ⟨_, _, gmeas hx hn, Weak.cutI 4 [0, 3, 4, 22] ?_ ?_, _, seen ++ [x.2], c, _, false, rfl, hmv' _, Nat.le_refl _, rfl, .inl ⟨rfl, ?_, rfl⟩⟩
        · simp (config := { maxSteps := 10000000, implicitDefEqProofs := false }) only [QH, Option.isSome, cond_true, cond_false, Option.bind, selB, V.rn, V.rns, Go.Ai.known, V.pz, V.pzs, T.toV, frz1, List.range, List.range.loop, Nat.reduceAdd, Nat.reduceMul, Nat.reduceSub, Nat.reduceEqDiff, Nat.reduceLT, Nat.reduceLeDiff, Nat.reducePow, Nat.reduceDiv, Nat.reduceMod, Int.reduceLT, Int.reduceLE, Int.reduceAdd, Int.reduceMul, Int.reduceSub, Int.reduceNeg, Int.reducePow, Int.reduceEq, ↓reduceIte, ite_true, ite_false, if_true, if_false, ne_eq, reduceCtorEq, Int.reduceBEq, Int.reduceBNe, Nat.reduceBEq, Nat.reduceBNe, implies_true, forall_const, eq_self, IntKind.bits, upd_tmsS, selT_cons, selT_nil]
        · simp (config := { maxSteps := 10000000, implicitDefEqProofs := false }) only [QH, Option.isSome, cond_true, cond_false, Option.bind, selB, V.rn, V.rns, Go.Ai.known, V.pz, V.pzs, T.toV, frz1, List.range, List.range.loop, Nat.reduceAdd, Nat.reduceMul, Nat.reduceSub, Nat.reduceEqDiff, Nat.reduceLT, Nat.reduceLeDiff, Nat.reducePow, Nat.reduceDiv, Nat.reduceMod, Int.reduceLT, Int.reduceLE, Int.reduceAdd, Int.reduceMul, Int.reduceSub, Int.reduceNeg, Int.reducePow, Int.reduceEq, ↓reduceIte, ite_true, ite_false, if_true, if_false, ne_eq, reduceCtorEq, Int.reduceBEq, Int.reduceBNe, Nat.reduceBEq, Nat.reduceBNe, implies_true, forall_const, eq_self, IntKind.bits, upd_tmsS, selT_cons, selT_nil, grn, rn_its]
        · intro e he hb
          rcases seenIn hx he hb with h | rfl
          · exact hall0 e he h
          · exact hxs
    · have hw0 : w = none := by
        cases w with
        | none => rfl
        | some k =>
          obtain ⟨e0, h1, h2, _⟩ := hw
          have h3 := List.mem_of_getElem? h1
          have := hall0 e0 h3 (hall _ (by simp only [encG]; exact List.mem_map.2 ⟨e0, h3, rfl⟩))
          rw [h2] at this; cases this
      subst hw0
      (have hwq := trivial; repeat' (first | simp (config := { maxSteps := 10000000, implicitDefEqProofs := false }) only [QH, QR, V.noimm, V.noimms, frzZs, frzZ, frzA, frzV, frzVs, frzBox, boxLen, Option.isSome, cond_true, cond_false, aopD, calW, flatV, stepX, amap, stepY, alookup, afind, aupdate, adelete, amlen, arange, ameq, mapOf, akeq, pl, V.mapT, V.mapTs, Option.bind, stepK, runK, guardD, stepE, runD, callD, compact, selB, callK, evS, ofVal, ofVals, scalar, aop, ares, mkRes, V.rn, V.rns, V.cells?, cellsAt, Go.Ai.part, aload, astore, setL, V.atom, abin, aun, intBin, shiftBin, aconv, fieldOf, aindexAddr, aindex, bound?, aslice, aarr, abuild, afill, alen, nilP, nilS, nilF, aeq, eqCells, eqCell, Go.Ai.known, strBin, abuiltin, aappend, abuildSlice, arowsFill, amakeSlice, acopy, minmax, rowsOf, numsT, notStr, isIntD, isByte, V.pz, V.pzs, T.toV, frz1, frz, scalT, scalTs, chunkT, List.range, List.range.loop, Int.reduceTDiv, Int.reduceTMod, Int.reduceFDiv, UInt8.reduceToNat, Nat.reduceAdd, Nat.reduceMul, Nat.reduceSub, Nat.reduceEqDiff, Nat.reduceLT, Nat.reduceLeDiff, Nat.reducePow, Nat.reduceDiv, Nat.reduceMod, Int.reduceLT, Int.reduceLE, Int.reduceAdd, Int.reduceMul, Int.reduceSub, Int.reduceNeg, Int.reduceToNat, Int.reducePow, Int.reduceEq, ↓reduceIte, ite_true, ite_false, if_true, if_false, ne_eq, reduceCtorEq, Int.reduceBEq, Int.reduceBNe, Nat.reduceBEq, Nat.reduceBNe, implies_true, forall_const, eq_self, reduceDIte, IntKind.bits, kPostKF_ret, kPostKF_normal, kPostX_ret, kPostX_normal, bsl, hwq, u3, a3, c3, b3, z3, k3, u4, a4, c4, b4, z4, k4, u5, a5, c5, b5, z5, k5, u23, a23, c23, b23, z23, k23, l23, u25, a25, c25, b25, z25, k25, u60, a60, c60, b60, z60, k60, u62, a62, c62, b62, z62, k62, u68, a68, c68, b68, z68, k68, l68, u70, a70, c70, b70, z70, k70, l70, grn, hfmv] | (refine awpL_loop 18 ?_; have hwq := trivial) | (refine condK_split ?_ ?_ <;> intro hwq) | (refine guardK_split ?_ ?_ <;> intro hwq) | (refine guardE_split ?_ ?_ <;> intro hwq) | (refine awp_drawW [] (by decide +kernel) ?_; have hwq := trivial) | fail))
      all_goals first | rfl | trace_state
  · simp (config := { maxSteps := 10000000, implicitDefEqProofs := false }) only [QH, QR, V.noimm, V.noimms, frzZs, frzZ, frzA, frzV, frzVs, frzBox, boxLen, Option.isSome, cond_true, cond_false, aopD, calW, flatV, stepX, amap, stepY, alookup, afind, aupdate, adelete, amlen, arange, ameq, mapOf, akeq, pl, V.mapT, V.mapTs, Option.bind, stepK, runK, guardD, stepE, runD, callD, compact, selB, callK, evS, ofVal, ofVals, scalar, aop, ares, mkRes, V.rn, V.rns, V.cells?, cellsAt, Go.Ai.part, aload, astore, setL, V.atom, abin, aun, intBin, shiftBin, aconv, fieldOf, aindexAddr, aindex, bound?, aslice, aarr, abuild, afill, alen, nilP, nilS, nilF, aeq, eqCells, eqCell, Go.Ai.known, strBin, abuiltin, aappend, abuildSlice, arowsFill, amakeSlice, acopy, minmax, rowsOf, numsT, notStr, isIntD, isByte, V.pz, V.pzs, T.toV, frz1, frz, scalT, scalTs, chunkT, List.range, List.range.loop, Int.reduceTDiv, Int.reduceTMod, Int.reduceFDiv, UInt8.reduceToNat, Nat.reduceAdd, Nat.reduceMul, Nat.reduceSub, Nat.reduceEqDiff, Nat.reduceLT, Nat.reduceLeDiff, Nat.reducePow, Nat.reduceDiv, Nat.reduceMod, Int.reduceLT, Int.reduceLE, Int.reduceAdd, Int.reduceMul, Int.reduceSub, Int.reduceNeg, Int.reduceToNat, Int.reducePow, Int.reduceEq, ↓reduceIte, ite_true, ite_false, if_true, if_false, ne_eq, reduceCtorEq, Int.reduceBEq, Int.reduceBNe, Nat.reduceBEq, Nat.reduceBNe, implies_true, forall_const, eq_self, reduceDIte, IntKind.bits, kPostKF_ret, kPostKF_normal, kPostX_ret, kPostX_normal, bsl, u3, a3, c3, b3, z3, k3, u4, a4, c4, b4, z4, k4, u5, a5, c5, b5, z5, k5, u23, a23, c23, b23, z23, k23, l23, u25, a25, c25, b25, z25, k25, u60, a60, c60, b60, z60, k60, u62, a62, c62, b62, z62, k62, u68, a68, c68, b68, z68, k68, l68, u70, a70, c70, b70, z70, k70, l70]
    refine nextK_it rfl rfl (encG_lt hL) hcl (fun e he hn => ?_) (fun hall => ?_)
    · obtain ⟨x, hx, rfl⟩ := encG_mem he
      simp only at hn
      have hfb := encG_born hL.bnd hx
      have he1 := List.mem_of_getElem? hg1
      have hf1 := findG e1.1.v e1.1.m M
      rw [findG_of hL.nod hg1] at hf1
      have hg' := encG_get hg1
      have hkk := gkeq e1.1.v e1.1.v e1.1.m e1.1.m
      have n38 := gc38 x.1.v e1.1.v x.1.m e1.1.m (hL.ok x hx).1 (hL.ok e1 he1).1
      have hbf := befB_iff x.1.v e1.1.v x.1.m e1.1.m
      obtain ⟨ix, hix⟩ := List.getElem?_of_mem hx
      have keep : (x.1.st = false → ¬ lt3 x.1 e1.1) → ∀ e ∈ M, e.2 ∈ seen ++ [x.2] → e.1.st = false → ¬ lt3 e.1 e1.1 := by
        intro h e he hb hes
        rcases seenIn hx he hb with h2 | rfl
        · exact hm1 e he h2 hes
        · exact h hes
      have turn : lt3 x.1 e1.1 → ∀ e ∈ M, e.2 ∈ seen ++ [x.2] → e.1.st = false → ¬ lt3 e.1 x.1 := by
        intro h e he hb hes
        rcases seenIn hx he hb with h2 | rfl
        · have := hm1 e he h2 hes
          unfold lt3 ltE at *
          omega
        · unfold lt3 ltE; omega
      cases hxs : x.1.st
      · by_cases ht1 : x.1.t < e1.1.t
        · (have hwq := trivial; repeat' (first | simp (config := { maxSteps := 10000000, implicitDefEqProofs := false }) only [QH, QR, V.noimm, V.noimms, frzZs, frzZ, frzA, frzV, frzVs, frzBox, boxLen, Option.isSome, cond_true, cond_false, aopD, calW, flatV, stepX, amap, stepY, alookup, afind, aupdate, adelete, amlen, arange, ameq, mapOf, akeq, pl, V.mapT, V.mapTs, Option.bind, stepK, runK, guardD, stepE, runD, callD, compact, selB, callK, evS, ofVal, ofVals, scalar, aop, ares, mkRes, V.rn, V.rns, V.cells?, cellsAt, Go.Ai.part, aload, astore, setL, V.atom, abin, aun, intBin, shiftBin, aconv, fieldOf, aindexAddr, aindex, bound?, aslice, aarr, abuild, afill, alen, nilP, nilS, nilF, aeq, eqCells, eqCell, Go.Ai.known, strBin, abuiltin, aappend, abuildSlice, arowsFill, amakeSlice, acopy, minmax, rowsOf, numsT, notStr, isIntD, isByte, V.pz, V.pzs, T.toV, frz1, frz, scalT, scalTs, chunkT, List.range, List.range.loop, Int.reduceTDiv, Int.reduceTMod, Int.reduceFDiv, UInt8.reduceToNat, Nat.reduceAdd, Nat.reduceMul, Nat.reduceSub, Nat.reduceEqDiff, Nat.reduceLT, Nat.reduceLeDiff, Nat.reducePow, Nat.reduceDiv, Nat.reduceMod, Int.reduceLT, Int.reduceLE, Int.reduceAdd, Int.reduceMul, Int.reduceSub, Int.reduceNeg, Int.reduceToNat, Int.reducePow, Int.reduceEq, ↓reduceIte, ite_true, ite_false, if_true, if_false, ne_eq, reduceCtorEq, Int.reduceBEq, Int.reduceBNe, Nat.reduceBEq, Nat.reduceBNe, implies_true, forall_const, eq_self, reduceDIte, IntKind.bits, kPostKF_ret, kPostKF_normal, kPostX_ret, kPostX_normal, bsl, hwq, u3, a3, c3, b3, z3, k3, u4, a4, c4, b4, z4, k4, u5, a5, c5, b5, z5, k5, u23, a23, c23, b23, z23, k23, l23, u25, a25, c25, b25, z25, k25, u60, a60, c60, b60, z60, k60, u62, a62, c62, b62, z62, k62, u68, a68, c68, b68, z68, k68, l68, u70, a70, c70, b70, z70, k70, l70, hfb, hxs, hkk, hf1, hg', ht1, List.getLast?_append, List.getLast?_singleton, List.getLast?_nil, aentry, Option.some_or] | (refine awpL_loop 18 ?_; have hwq := trivial) | (refine condK_split ?_ ?_ <;> intro hwq) | (refine guardK_split ?_ ?_ <;> intro hwq) | (refine guardE_split ?_ ?_ <;> intro hwq) | (refine awp_drawW [] (by decide +kernel) ?_; have hwq := trivial) | fail))
          refine ⟨_, _, gmeas hx hn, Weak.cutI 4 [0, 3, 4, 22] ?_ ?_, _, seen ++ [x.2], c, _, true, rfl, hmv' _, Nat.le_refl _, rfl, .inr ⟨rfl, ix, x, hix, hxs, by simp, turn (.inl ht1), rfl⟩⟩
          · simp (config := { maxSteps := 10000000, implicitDefEqProofs := false }) only [QH, Option.isSome, cond_true, cond_false, Option.bind, selB, V.rn, V.rns, Go.Ai.known, V.pz, V.pzs, T.toV, frz1, List.range, List.range.loop, Nat.reduceAdd, Nat.reduceMul, Nat.reduceSub, Nat.reduceEqDiff, Nat.reduceLT, Nat.reduceLeDiff, Nat.reducePow, Nat.reduceDiv, Nat.reduceMod, Int.reduceLT, Int.reduceLE, Int.reduceAdd, Int.reduceMul, Int.reduceSub, Int.reduceNeg, Int.reducePow, Int.reduceEq, ↓reduceIte, ite_true, ite_false, if_true, if_false, ne_eq, reduceCtorEq, Int.reduceBEq, Int.reduceBNe, Nat.reduceBEq, Nat.reduceBNe, implies_true, forall_const, eq_self, IntKind.bits, upd_tmsS, selT_cons, selT_nil]
          · simp (config := { maxSteps := 10000000, implicitDefEqProofs := false }) only [QH, Option.isSome, cond_true, cond_false, Option.bind, selB, V.rn, V.rns, Go.Ai.known, V.pz, V.pzs, T.toV, frz1, List.range, List.range.loop, Nat.reduceAdd, Nat.reduceMul, Nat.reduceSub, Nat.reduceEqDiff, Nat.reduceLT, Nat.reduceLeDiff, Nat.reducePow, Nat.reduceDiv, Nat.reduceMod, Int.reduceLT, Int.reduceLE, Int.reduceAdd, Int.reduceMul, Int.reduceSub, Int.reduceNeg, Int.reducePow, Int.reduceEq, ↓reduceIte, ite_true, ite_false, if_true, if_false, ne_eq, reduceCtorEq, Int.reduceBEq, Int.reduceBNe, Nat.reduceBEq, Nat.reduceBNe, implies_true, forall_const, eq_self, IntKind.bits, upd_tmsS, selT_cons, selT_nil, grn, rn_its]
        · by_cases ht2 : x.1.t = e1.1.t
          · have ht2' : (x.1.t == e1.1.t) = true := by simp [ht2]
            cases hbb : befB x.1.v e1.1.v x.1.m e1.1.m
            · rw [hbb] at n38 hbf
              (have hwq := trivial; repeat' (first | simp (config := { maxSteps := 10000000, implicitDefEqProofs := false }) only [QH, QR, V.noimm, V.noimms, frzZs, frzZ, frzA, frzV, frzVs, frzBox, boxLen, Option.isSome, cond_true, cond_false, aopD, calW, flatV, stepX, amap, stepY, alookup, afind, aupdate, adelete, amlen, arange, ameq, mapOf, akeq, pl, V.mapT, V.mapTs, Option.bind, stepK, runK, guardD, stepE, runD, callD, compact, selB, callK, evS, ofVal, ofVals, scalar, aop, ares, mkRes, V.rn, V.rns, V.cells?, cellsAt, Go.Ai.part, aload, astore, setL, V.atom, abin, aun, intBin, shiftBin, aconv, fieldOf, aindexAddr, aindex, bound?, aslice, aarr, abuild, afill, alen, nilP, nilS, nilF, aeq, eqCells, eqCell, Go.Ai.known, strBin, abuiltin, aappend, abuildSlice, arowsFill, amakeSlice, acopy, minmax, rowsOf, numsT, notStr, isIntD, isByte, V.pz, V.pzs, T.toV, frz1, frz, scalT, scalTs, chunkT, List.range, List.range.loop, Int.reduceTDiv, Int.reduceTMod, Int.reduceFDiv, UInt8.reduceToNat, Nat.reduceAdd, Nat.reduceMul, Nat.reduceSub, Nat.reduceEqDiff, Nat.reduceLT, Nat.reduceLeDiff, Nat.reducePow, Nat.reduceDiv, Nat.reduceMod, Int.reduceLT, Int.reduceLE, Int.reduceAdd, Int.reduceMul, Int.reduceSub, Int.reduceNeg, Int.reduceToNat, Int.reducePow, Int.reduceEq, ↓reduceIte, ite_true, ite_false, if_true, if_false, ne_eq, reduceCtorEq, Int.reduceBEq, Int.reduceBNe, Nat.reduceBEq, Nat.reduceBNe, implies_true, forall_const, eq_self, reduceDIte, IntKind.bits, kPostKF_ret, kPostKF_normal, kPostX_ret, kPostX_normal, bsl, hwq, u3, a3, c3, b3, z3, k3, u4, a4, c4, b4, z4, k4, u5, a5, c5, b5, z5, k5, u23, a23, c23, b23, z23, k23, l23, u25, a25, c25, b25, z25, k25, u60, a60, c60, b60, z60, k60, u62, a62, c62, b62, z62, k62, u68, a68, c68, b68, z68, k68, l68, u70, a70, c70, b70, z70, k70, l70, hfb, hxs, hkk, hf1, hg', ht1, ht2', List.getLast?_append, List.getLast?_singleton, List.getLast?_nil, aentry, Option.some_or] | (refine awpL_loop 18 ?_; have hwq := trivial) | (refine condK_split ?_ ?_ <;> intro hwq) | (refine guardK_split ?_ ?_ <;> intro hwq) | (refine guardE_split ?_ ?_ <;> intro hwq) | (refine awp_drawW [] (by decide +kernel) ?_; have hwq := trivial) | (refine call_plain n38 rfl rfl ?_; have hwq := trivial) | fail))
              refine ⟨_, _, gmeas hx hn, Weak.cutI 4 [0, 3, 4, 22] ?_ ?_, _, seen ++ [x.2], c, _, true, rfl, hmv' _, Nat.le_refl _, rfl, .inr ⟨rfl, i1, e1, hg1, hs1, by simp [hb1], keep (fun _ => ?_), rfl⟩⟩
              · simp (config := { maxSteps := 10000000, implicitDefEqProofs := false }) only [QH, Option.isSome, cond_true, cond_false, Option.bind, selB, V.rn, V.rns, Go.Ai.known, V.pz, V.pzs, T.toV, frz1, List.range, List.range.loop, Nat.reduceAdd, Nat.reduceMul, Nat.reduceSub, Nat.reduceEqDiff, Nat.reduceLT, Nat.reduceLeDiff, Nat.reducePow, Nat.reduceDiv, Nat.reduceMod, Int.reduceLT, Int.reduceLE, Int.reduceAdd, Int.reduceMul, Int.reduceSub, Int.reduceNeg, Int.reducePow, Int.reduceEq, ↓reduceIte, ite_true, ite_false, if_true, if_false, ne_eq, reduceCtorEq, Int.reduceBEq, Int.reduceBNe, Nat.reduceBEq, Nat.reduceBNe, implies_true, forall_const, eq_self, IntKind.bits, upd_tmsS, selT_cons, selT_nil]
              · simp (config := { maxSteps := 10000000, implicitDefEqProofs := false }) only [QH, Option.isSome, cond_true, cond_false, Option.bind, selB, V.rn, V.rns, Go.Ai.known, V.pz, V.pzs, T.toV, frz1, List.range, List.range.loop, Nat.reduceAdd, Nat.reduceMul, Nat.reduceSub, Nat.reduceEqDiff, Nat.reduceLT, Nat.reduceLeDiff, Nat.reducePow, Nat.reduceDiv, Nat.reduceMod, Int.reduceLT, Int.reduceLE, Int.reduceAdd, Int.reduceMul, Int.reduceSub, Int.reduceNeg, Int.reducePow, Int.reduceEq, ↓reduceIte, ite_true, ite_false, if_true, if_false, ne_eq, reduceCtorEq, Int.reduceBEq, Int.reduceBNe, Nat.reduceBEq, Nat.reduceBNe, implies_true, forall_const, eq_self, IntKind.bits, upd_tmsS, selT_cons, selT_nil, grn, rn_its]
              · simp at hbf
                unfold lt3 ltE
                omega
            · rw [hbb] at n38 hbf
              (have hwq := trivial; repeat' (first | simp (config := { maxSteps := 10000000, implicitDefEqProofs := false }) only [QH, QR, V.noimm, V.noimms, frzZs, frzZ, frzA, frzV, frzVs, frzBox, boxLen, Option.isSome, cond_true, cond_false, aopD, calW, flatV, stepX, amap, stepY, alookup, afind, aupdate, adelete, amlen, arange, ameq, mapOf, akeq, pl, V.mapT, V.mapTs, Option.bind, stepK, runK, guardD, stepE, runD, callD, compact, selB, callK, evS, ofVal, ofVals, scalar, aop, ares, mkRes, V.rn, V.rns, V.cells?, cellsAt, Go.Ai.part, aload, astore, setL, V.atom, abin, aun, intBin, shiftBin, aconv, fieldOf, aindexAddr, aindex, bound?, aslice, aarr, abuild, afill, alen, nilP, nilS, nilF, aeq, eqCells, eqCell, Go.Ai.known, strBin, abuiltin, aappend, abuildSlice, arowsFill, amakeSlice, acopy, minmax, rowsOf, numsT, notStr, isIntD, isByte, V.pz, V.pzs, T.toV, frz1, frz, scalT, scalTs, chunkT, List.range, List.range.loop, Int.reduceTDiv, Int.reduceTMod, Int.reduceFDiv, UInt8.reduceToNat, Nat.reduceAdd, Nat.reduceMul, Nat.reduceSub, Nat.reduceEqDiff, Nat.reduceLT, Nat.reduceLeDiff, Nat.reducePow, Nat.reduceDiv, Nat.reduceMod, Int.reduceLT, Int.reduceLE, Int.reduceAdd, Int.reduceMul, Int.reduceSub, Int.reduceNeg, Int.reduceToNat, Int.reducePow, Int.reduceEq, ↓reduceIte, ite_true, ite_false, if_true, if_false, ne_eq, reduceCtorEq, Int.reduceBEq, Int.reduceBNe, Nat.reduceBEq, Nat.reduceBNe, implies_true, forall_const, eq_self, reduceDIte, IntKind.bits, kPostKF_ret, kPostKF_normal, kPostX_ret, kPostX_normal, bsl, hwq, u3, a3, c3, b3, z3, k3, u4, a4, c4, b4, z4, k4, u5, a5, c5, b5, z5, k5, u23, a23, c23, b23, z23, k23, l23, u25, a25, c25, b25, z25, k25, u60, a60, c60, b60, z60, k60, u62, a62, c62, b62, z62, k62, u68, a68, c68, b68, z68, k68, l68, u70, a70, c70, b70, z70, k70, l70, hfb, hxs, hkk, hf1, hg', ht1, ht2', List.getLast?_append, List.getLast?_singleton, List.getLast?_nil, aentry, Option.some_or] | (refine awpL_loop 18 ?_; have hwq := trivial) | (refine condK_split ?_ ?_ <;> intro hwq) | (refine guardK_split ?_ ?_ <;> intro hwq) | (refine guardE_split ?_ ?_ <;> intro hwq) | (refine awp_drawW [] (by decide +kernel) ?_; have hwq := trivial) | (refine call_plain n38 rfl rfl ?_; have hwq := trivial) | fail))
              refine ⟨_, _, gmeas hx hn, Weak.cutI 4 [0, 3, 4, 22] ?_ ?_, _, seen ++ [x.2], c, _, true, rfl, hmv' _, Nat.le_refl _, rfl, .inr ⟨rfl, ix, x, hix, hxs, by simp, turn (.inr ⟨ht2, ?_⟩), rfl⟩⟩
              · simp (config := { maxSteps := 10000000, implicitDefEqProofs := false }) only [QH, Option.isSome, cond_true, cond_false, Option.bind, selB, V.rn, V.rns, Go.Ai.known, V.pz, V.pzs, T.toV, frz1, List.range, List.range.loop, Nat.reduceAdd, Nat.reduceMul, Nat.reduceSub, Nat.reduceEqDiff, Nat.reduceLT, Nat.reduceLeDiff, Nat.reducePow, Nat.reduceDiv, Nat.reduceMod, Int.reduceLT, Int.reduceLE, Int.reduceAdd, Int.reduceMul, Int.reduceSub, Int.reduceNeg, Int.reducePow, Int.reduceEq, ↓reduceIte, ite_true, ite_false, if_true, if_false, ne_eq, reduceCtorEq, Int.reduceBEq, Int.reduceBNe, Nat.reduceBEq, Nat.reduceBNe, implies_true, forall_const, eq_self, IntKind.bits, upd_tmsS, selT_cons, selT_nil]
              · simp (config := { maxSteps := 10000000, implicitDefEqProofs := false }) only [QH, Option.isSome, cond_true, cond_false, Option.bind, selB, V.rn, V.rns, Go.Ai.known, V.pz, V.pzs, T.toV, frz1, List.range, List.range.loop, Nat.reduceAdd, Nat.reduceMul, Nat.reduceSub, Nat.reduceEqDiff, Nat.reduceLT, Nat.reduceLeDiff, Nat.reducePow, Nat.reduceDiv, Nat.reduceMod, Int.reduceLT, Int.reduceLE, Int.reduceAdd, Int.reduceMul, Int.reduceSub, Int.reduceNeg, Int.reducePow, Int.reduceEq, ↓reduceIte, ite_true, ite_false, if_true, if_false, ne_eq, reduceCtorEq, Int.reduceBEq, Int.reduceBNe, Nat.reduceBEq, Nat.reduceBNe, implies_true, forall_const, eq_self, IntKind.bits, upd_tmsS, selT_cons, selT_nil, grn, rn_its]
              · exact hbf.1 rfl
          · have ht2' : (x.1.t == e1.1.t) = false := by simp [ht2]
            (have hwq := trivial; repeat' (first | simp (config := { maxSteps := 10000000, implicitDefEqProofs := false }) only [QH, QR, V.noimm, V.noimms, frzZs, frzZ, frzA, frzV, frzVs, frzBox, boxLen, Option.isSome, cond_true, cond_false, aopD, calW, flatV, stepX, amap, stepY, alookup, afind, aupdate, adelete, amlen, arange, ameq, mapOf, akeq, pl, V.mapT, V.mapTs, Option.bind, stepK, runK, guardD, stepE, runD, callD, compact, selB, callK, evS, ofVal, ofVals, scalar, aop, ares, mkRes, V.rn, V.rns, V.cells?, cellsAt, Go.Ai.part, aload, astore, setL, V.atom, abin, aun, intBin, shiftBin, aconv, fieldOf, aindexAddr, aindex, bound?, aslice, aarr, abuild, afill, alen, nilP, nilS, nilF, aeq, eqCells, eqCell, Go.Ai.known, strBin, abuiltin, aappend, abuildSlice, arowsFill, amakeSlice, acopy, minmax, rowsOf, numsT, notStr, isIntD, isByte, V.pz, V.pzs, T.toV, frz1, frz, scalT, scalTs, chunkT, List.range, List.range.loop, Int.reduceTDiv, Int.reduceTMod, Int.reduceFDiv, UInt8.reduceToNat, Nat.reduceAdd, Nat.reduceMul, Nat.reduceSub, Nat.reduceEqDiff, Nat.reduceLT, Nat.reduceLeDiff, Nat.reducePow, Nat.reduceDiv, Nat.reduceMod, Int.reduceLT, Int.reduceLE, Int.reduceAdd, Int.reduceMul, Int.reduceSub, Int.reduceNeg, Int.reduceToNat, Int.reducePow, Int.reduceEq, ↓reduceIte, ite_true, ite_false, if_true, if_false, ne_eq, reduceCtorEq, Int.reduceBEq, Int.reduceBNe, Nat.reduceBEq, Nat.reduceBNe, implies_true, forall_const, eq_self, reduceDIte, IntKind.bits, kPostKF_ret, kPostKF_normal, kPostX_ret, kPostX_normal, bsl, hwq, u3, a3, c3, b3, z3, k3, u4, a4, c4, b4, z4, k4, u5, a5, c5, b5, z5, k5, u23, a23, c23, b23, z23, k23, l23, u25, a25, c25, b25, z25, k25, u60, a60, c60, b60, z60, k60, u62, a62, c62, b62, z62, k62, u68, a68, c68, b68, z68, k68, l68, u70, a70, c70, b70, z70, k70, l70, hfb, hxs, hkk, hf1, hg', ht1, ht2', List.getLast?_append, List.getLast?_singleton, List.getLast?_nil, aentry, Option.some_or] | (refine awpL_loop 18 ?_; have hwq := trivial) | (refine condK_split ?_ ?_ <;> intro hwq) | (refine guardK_split ?_ ?_ <;> intro hwq) | (refine guardE_split ?_ ?_ <;> intro hwq) | (refine awp_drawW [] (by decide +kernel) ?_; have hwq := trivial) | fail))
            refine ⟨_, _, gmeas hx hn, Weak.cutI 4 [0, 3, 4, 22] ?_ ?_, _, seen ++ [x.2], c, _, true, rfl, hmv' _, Nat.le_refl _, rfl, .inr ⟨rfl, i1, e1, hg1, hs1, by simp [hb1], keep (fun _ => ?_), rfl⟩⟩
            · simp (config := { maxSteps := 10000000, implicitDefEqProofs := false }) only [QH, Option.isSome, cond_true, cond_false, Option.bind, selB, V.rn, V.rns, Go.Ai.known, V.pz, V.pzs, T.toV, frz1, List.range, List.range.loop, Nat.reduceAdd, Nat.reduceMul, Nat.reduceSub, Nat.reduceEqDiff, Nat.reduceLT, Nat.reduceLeDiff, Nat.reducePow, Nat.reduceDiv, Nat.reduceMod, Int.reduceLT, Int.reduceLE, Int.reduceAdd, Int.reduceMul, Int.reduceSub, Int.reduceNeg, Int.reducePow, Int.reduceEq, ↓reduceIte, ite_true, ite_false, if_true, if_false, ne_eq, reduceCtorEq, Int.reduceBEq, Int.reduceBNe, Nat.reduceBEq, Nat.reduceBNe, implies_true, forall_const, eq_self, IntKind.bits, upd_tmsS, selT_cons, selT_nil]
            · simp (config := { maxSteps := 10000000, implicitDefEqProofs := false }) only [QH, Option.isSome, cond_true, cond_false, Option.bind, selB, V.rn, V.rns, Go.Ai.known, V.pz, V.pzs, T.toV, frz1, List.range, List.range.loop, Nat.reduceAdd, Nat.reduceMul, Nat.reduceSub, Nat.reduceEqDiff, Nat.reduceLT, Nat.reduceLeDiff, Nat.reducePow, Nat.reduceDiv, Nat.reduceMod, Int.reduceLT, Int.reduceLE, Int.reduceAdd, Int.reduceMul, Int.reduceSub, Int.reduceNeg, Int.reducePow, Int.reduceEq, ↓reduceIte, ite_true, ite_false, if_true, if_false, ne_eq, reduceCtorEq, Int.reduceBEq, Int.reduceBNe, Nat.reduceBEq, Nat.reduceBNe, implies_true, forall_const, eq_self, IntKind.bits, upd_tmsS, selT_cons, selT_nil, grn, rn_its]
            · unfold lt3 ltE
              omega
      · (have hwq := trivial; repeat' (first | simp (config := { maxSteps := 10000000, implicitDefEqProofs := false }) only [QH, QR, V.noimm, V.noimms, frzZs, frzZ, frzA, frzV, frzVs, frzBox, boxLen, Option.isSome, cond_true, cond_false, aopD, calW, flatV, stepX, amap, stepY, alookup, afind, aupdate, adelete, amlen, arange, ameq, mapOf, akeq, pl, V.mapT, V.mapTs, Option.bind, stepK, runK, guardD, stepE, runD, callD, compact, selB, callK, evS, ofVal, ofVals, scalar, aop, ares, mkRes, V.rn, V.rns, V.cells?, cellsAt, Go.Ai.part, aload, astore, setL, V.atom, abin, aun, intBin, shiftBin, aconv, fieldOf, aindexAddr, aindex, bound?, aslice, aarr, abuild, afill, alen, nilP, nilS, nilF, aeq, eqCells, eqCell, Go.Ai.known, strBin, abuiltin, aappend, abuildSlice, arowsFill, amakeSlice, acopy, minmax, rowsOf, numsT, notStr, isIntD, isByte, V.pz, V.pzs, T.toV, frz1, frz, scalT, scalTs, chunkT, List.range, List.range.loop, Int.reduceTDiv, Int.reduceTMod, Int.reduceFDiv, UInt8.reduceToNat, Nat.reduceAdd, Nat.reduceMul, Nat.reduceSub, Nat.reduceEqDiff, Nat.reduceLT, Nat.reduceLeDiff, Nat.reducePow, Nat.reduceDiv, Nat.reduceMod, Int.reduceLT, Int.reduceLE, Int.reduceAdd, Int.reduceMul, Int.reduceSub, Int.reduceNeg, Int.reduceToNat, Int.reducePow, Int.reduceEq, ↓reduceIte, ite_true, ite_false, if_true, if_false, ne_eq, reduceCtorEq, Int.reduceBEq, Int.reduceBNe, Nat.reduceBEq, Nat.reduceBNe, implies_true, forall_const, eq_self, reduceDIte, IntKind.bits, kPostKF_ret, kPostKF_normal, kPostX_ret, kPostX_normal, bsl, hwq, u3, a3, c3, b3, z3, k3, u4, a4, c4, b4, z4, k4, u5, a5, c5, b5, z5, k5, u23, a23, c23, b23, z23, k23, l23, u25, a25, c25, b25, z25, k25, u60, a60, c60, b60, z60, k60, u62, a62, c62, b62, z62, k62, u68, a68, c68, b68, z68, k68, l68, u70, a70, c70, b70, z70, k70, l70, hfb, hxs, List.getLast?_append, List.getLast?_singleton, List.getLast?_nil, aentry, Option.some_or] | (refine awpL_loop 18 ?_; have hwq := trivial) | (refine condK_split ?_ ?_ <;> intro hwq) | (refine guardK_split ?_ ?_ <;> intro hwq) | (refine guardE_split ?_ ?_ <;> intro hwq) | (refine awp_drawW [] (by decide +kernel) ?_; have hwq := trivial) | fail))
        refine ⟨_, _, gmeas hx hn, Weak.cutI 4 [0, 3, 4, 22] ?_ ?_, _, seen ++ [x.2], c, _, true, rfl, hmv' _, Nat.le_refl _, rfl, .inr ⟨rfl, i1, e1, hg1, hs1, by simp [hb1], keep (fun h => by rw [hxs] at h; cases h), rfl⟩⟩
        · simp (config := { maxSteps := 10000000, implicitDefEqProofs := false }) only [QH, Option.isSome, cond_true, cond_false, Option.bind, selB, V.rn, V.rns, Go.Ai.known, V.pz, V.pzs, T.toV, frz1, List.range, List.range.loop, Nat.reduceAdd, Nat.reduceMul, Nat.reduceSub, Nat.reduceEqDiff, Nat.reduceLT, Nat.reduceLeDiff, Nat.reducePow, Nat.reduceDiv, Nat.reduceMod, Int.reduceLT, Int.reduceLE, Int.reduceAdd, Int.reduceMul, Int.reduceSub, Int.reduceNeg, Int.reducePow, Int.reduceEq, ↓reduceIte, ite_true, ite_false, if_true, if_false, ne_eq, reduceCtorEq, Int.reduceBEq, Int.reduceBNe, Nat.reduceBEq, Nat.reduceBNe, implies_true, forall_const, eq_self, IntKind.bits, upd_tmsS, selT_cons, selT_nil]
        · simp (config := { maxSteps := 10000000, implicitDefEqProofs := false }) only [QH, Option.isSome, cond_true, cond_false, Option.bind, selB, V.rn, V.rns, Go.Ai.known, V.pz, V.pzs, T.toV, frz1, List.range, List.range.loop, Nat.reduceAdd, Nat.reduceMul, Nat.reduceSub, Nat.reduceEqDiff, Nat.reduceLT, Nat.reduceLeDiff, Nat.reducePow, Nat.reduceDiv, Nat.reduceMod, Int.reduceLT, Int.reduceLE, Int.reduceAdd, Int.reduceMul, Int.reduceSub, Int.reduceNeg, Int.reducePow, Int.reduceEq, ↓reduceIte, ite_true, ite_false, if_true, if_false, ne_eq, reduceCtorEq, Int.reduceBEq, Int.reduceBNe, Nat.reduceBEq, Nat.reduceBNe, implies_true, forall_const, eq_self, IntKind.bits, upd_tmsS, selT_cons, selT_nil, grn, rn_its]
    · have he1 := List.mem_of_getElem? hg1
      cases w with
      | none =>
        have := hw e1 he1
        rw [hs1] at this; cases this
      | some i0 =>
        obtain ⟨e0, h0, h2, hmin⟩ := hw
        have h3 := List.mem_of_getElem? h0
        have hm0 := hm1 e0 h3 (hall _ (by simp only [encG]; exact List.mem_map.2 ⟨e0, h3, rfl⟩)) h2
        have hn : e1 = e0 := by
          by_cases h : e1 = e0
          · exact h
          · exact (hm0 (hmin e1 he1 hs1 h)).elim
        subst hn
        have hii : i1 = i0 := by
          have a1 := findG_of hL.nod hg1
          have a2 := findG_of hL.nod h0
          rw [a2] at a1
          exact (Option.some.inj a1).symm
        subst hii
        have hf1 := findG e1.1.v e1.1.m M
        rw [findG_of hL.nod hg1] at hf1
        have hkk := gkeq e1.1.v e1.1.v e1.1.m e1.1.m
        have hee := encG_erase M i1
        (have hwq := trivial; repeat' (first | simp (config := { maxSteps := 10000000, implicitDefEqProofs := false }) only [QH, QR, V.noimm, V.noimms, frzZs, frzZ, frzA, frzV, frzVs, frzBox, boxLen, Option.isSome, cond_true, cond_false, aopD, calW, flatV, stepX, amap, stepY, alookup, afind, aupdate, adelete, amlen, arange, ameq, mapOf, akeq, pl, V.mapT, V.mapTs, Option.bind, stepK, runK, guardD, stepE, runD, callD, compact, selB, callK, evS, ofVal, ofVals, scalar, aop, ares, mkRes, V.rn, V.rns, V.cells?, cellsAt, Go.Ai.part, aload, astore, setL, V.atom, abin, aun, intBin, shiftBin, aconv, fieldOf, aindexAddr, aindex, bound?, aslice, aarr, abuild, afill, alen, nilP, nilS, nilF, aeq, eqCells, eqCell, Go.Ai.known, strBin, abuiltin, aappend, abuildSlice, arowsFill, amakeSlice, acopy, minmax, rowsOf, numsT, notStr, isIntD, isByte, V.pz, V.pzs, T.toV, frz1, frz, scalT, scalTs, chunkT, List.range, List.range.loop, Int.reduceTDiv, Int.reduceTMod, Int.reduceFDiv, UInt8.reduceToNat, Nat.reduceAdd, Nat.reduceMul, Nat.reduceSub, Nat.reduceEqDiff, Nat.reduceLT, Nat.reduceLeDiff, Nat.reducePow, Nat.reduceDiv, Nat.reduceMod, Int.reduceLT, Int.reduceLE, Int.reduceAdd, Int.reduceMul, Int.reduceSub, Int.reduceNeg, Int.reduceToNat, Int.reducePow, Int.reduceEq, ↓reduceIte, ite_true, ite_false, if_true, if_false, ne_eq, reduceCtorEq, Int.reduceBEq, Int.reduceBNe, Nat.reduceBEq, Nat.reduceBNe, implies_true, forall_const, eq_self, reduceDIte, IntKind.bits, kPostKF_ret, kPostKF_normal, kPostX_ret, kPostX_normal, bsl, hwq, u3, a3, c3, b3, z3, k3, u4, a4, c4, b4, z4, k4, u5, a5, c5, b5, z5, k5, u23, a23, c23, b23, z23, k23, l23, u25, a25, c25, b25, z25, k25, u60, a60, c60, b60, z60, k60, u62, a62, c62, b62, z62, k62, u68, a68, c68, b68, z68, k68, l68, u70, a70, c70, b70, z70, k70, l70, hf1, hee, grn, hfmv, hkk] | (refine awpL_loop 18 ?_; have hwq := trivial) | (refine condK_split ?_ ?_ <;> intro hwq) | (refine guardK_split ?_ ?_ <;> intro hwq) | (refine guardE_split ?_ ?_ <;> intro hwq) | (refine awp_drawW [] (by decide +kernel) ?_; have hwq := trivial) | fail))
        all_goals first | rfl | trace_state
end Go.Ai
