/- Contracts of functions of the loaded program: called with data in the ranges that each names, it returns this value and writes to no old memory. -/
import Derived.Test.YtgppcipkllkgbaaFdbN
set_option linter.unusedVariables false
set_option linter.unusedSimpArgs false
set_option maxHeartbeats 4000000
set_option maxRecDepth 100000
namespace Go.Ai
open Go.Proofs

def insE (k : Ent) : List Ent → List Ent
  | [] => [k]
  | x :: l => if befB k.v x.v k.m x.m then k :: x :: l else x :: insE k l
theorem insE_len (k : Ent) : ∀ l : List Ent, (insE k l).length = l.length + 1
  | [] => rfl
  | x :: l => by
    rw [insE]
    split
    · simp
    · simp [insE_len k l]
def Srt (L : List Ent) : Prop := L.Pairwise ltE
theorem srt_unique : ∀ {A B : List Ent}, A.Perm B → Srt A → Srt B → A = B
  | [], B, h, _, _ => by rw [List.nil_perm.1 h]
  | a :: A, [], h, _, _ => by simp at h
  | a :: A, b :: B, h, ha, hb => by
    have hab : a = b := by
      have h1 : a ∈ b :: B := h.mem_iff.1 (by simp)
      have h2 : b ∈ a :: A := h.mem_iff.2 (by simp)
      rcases List.mem_cons.1 h1 with e | h1
      · exact e
      rcases List.mem_cons.1 h2 with e | h2
      · exact e.symm
      have l1 := List.rel_of_pairwise_cons hb h1
      have l2 := List.rel_of_pairwise_cons ha h2
      unfold ltE at l1 l2
      omega
    subst hab
    have := srt_unique ((List.perm_cons a).1 h) (List.Pairwise.of_cons ha) (List.Pairwise.of_cons hb)
    rw [this]
structure Rep (M : List Ev) (c : Nat) (L : List Ent) : Prop where
  perm : (M.map (·.1)).Perm L
  srt : Srt L
  ok : ∀ e ∈ L, okE e
  bnd : (M.map (·.2)).Nodup
  lt : ∀ e ∈ M, e.2 < c
theorem srt_nod {L : List Ent} (h : Srt L) : (L.map keyOf).Nodup := by
  unfold List.Nodup
  rw [List.pairwise_map]
  refine h.imp fun {a b} hl he => ?_
  simp only [keyOf, Prod.mk.injEq] at he
  unfold ltE at hl
  rw [he.1, he.2] at hl
  omega
theorem Rep.good {M : List Ev} {c : Nat} {L : List Ent} (h : Rep M c L) : GoodG M c := by
  refine ⟨fun e he => h.ok e.1 (h.perm.mem_iff.1 (List.mem_map.2 ⟨e, he, rfl⟩)), ?_, h.bnd, h.lt⟩
  have h1 := (h.perm.map keyOf).nodup_iff.2 (srt_nod h.srt)
  rwa [List.map_map] at h1
theorem Rep.get {M : List Ev} {c : Nat} {L : List Ent} (h : Rep M c L) {e : Ent} (he : e ∈ L) : ∃ (k : Nat) (b : Nat), M[k]? = some (e, b) := by
  obtain ⟨⟨x, b⟩, hx, rfl⟩ := List.mem_map.1 (h.perm.mem_iff.2 he)
  obtain ⟨k, hk⟩ := List.getElem?_of_mem hx
  exact ⟨k, b, hk⟩
theorem Rep.len {M : List Ev} {c : Nat} {L : List Ent} (h : Rep M c L) : M.length = L.length := by
  have := h.perm.length_eq
  simpa using this
theorem Rep.none {M : List Ev} {c : Nat} {L : List Ent} (h : Rep M c L) {i : Int} {m : Mc} (hn : L.findIdx? (isK i m) = none) : M.findIdx? (fun e => isK i m e.1) = none := by
  rw [List.findIdx?_eq_none_iff] at hn ⊢
  intro e he
  exact hn e.1 (h.perm.mem_iff.1 (List.mem_map.2 ⟨e, he, rfl⟩))
theorem isK_eq {i : Int} {m : Mc} {e : Ent} (h : isK i m e = true) : i = e.v ∧ m = e.m := by
  simp only [isK, decide_eq_true_eq] at h
  exact ⟨h.1.symm, h.2.symm⟩
/-- What is found. -/
def lookL (L : List Ent) (i : Int) (m : Mc) : Option Ent := L.find? (isK i m)
theorem look_idx {L : List Ent} {i : Int} {m : Mc} {j : Nat} (h : L.findIdx? (isK i m) = some j) : ∃ e, L[j]? = some e ∧ isK i m e = true ∧ lookL L i m = some e := by
  obtain ⟨hj, h1, h2⟩ := List.findIdx?_eq_some_iff_getElem.1 h
  refine ⟨L[j], List.getElem?_eq_getElem hj, h1, ?_⟩
  unfold lookL
  rw [List.find?_eq_some_iff_getElem]
  exact ⟨h1, j, hj, rfl, fun k hk => by simpa using h2 k hk⟩
theorem look_none {L : List Ent} {i : Int} {m : Mc} (h : L.findIdx? (isK i m) = none) : lookL L i m = none := by
  rw [List.findIdx?_eq_none_iff] at h
  unfold lookL
  rw [List.find?_eq_none]
  intro x hx
  simp [h x hx]
theorem Rep.some {M : List Ev} {c : Nat} {L : List Ent} (h : Rep M c L) {i : Int} {m : Mc} {j : Nat} (hj : L.findIdx? (isK i m) = some j) : ∃ k b e, L[j]? = some e ∧ i = e.v ∧ m = e.m ∧ lookL L i m = some e ∧ M[k]? = some (e, b) ∧ M.findIdx? (fun x => isK i m x.1) = some k := by
  obtain ⟨e, h1, h2, h3⟩ := look_idx hj
  obtain ⟨hi, hm⟩ := isK_eq h2
  obtain ⟨k, b, hk⟩ := h.get (List.mem_of_getElem? h1)
  have := findG_of h.good.nod hk
  simp only [← hi, ← hm] at this
  exact ⟨k, b, e, h1, hi, hm, h3, hk, this⟩

theorem insE_perm (e : Ent) : ∀ L : List Ent, (insE e L).Perm (e :: L)
  | [] => List.Perm.refl _
  | x :: L => by
    rw [insE]
    split
    · exact List.Perm.refl _
    · exact ((insE_perm e L).cons x).trans (List.Perm.swap e x L)
theorem ltE_total {x e : Ent} (hx : okM x.m) (he : okM e.m) (hne : keyOf x ≠ keyOf e) (h : ¬ ltE e x) : ltE x e := by
  unfold ltE at *
  by_cases h1 : x.v = e.v
  · have : numM x.m ≠ numM e.m := fun hh => hne (by simp [keyOf, h1, numM_inj hx he hh])
    omega
  · omega
theorem insE_srt {e : Ent} (he : okM e.m) : ∀ {L : List Ent}, Srt L → (∀ x ∈ L, okM x.m) → (∀ x ∈ L, keyOf x ≠ keyOf e) → Srt (insE e L)
  | [], _, _, _ => by simp [insE, Srt]
  | x :: L, h, hok, hne => by
    rw [insE]
    have hx := List.Pairwise.of_cons h
    split
    · rename_i ha
      rw [befB_iff] at ha
      refine List.Pairwise.cons (fun y hy => ?_) h
      have ha : ltE e x := ha
      rcases List.mem_cons.1 hy with rfl | hy
      · exact ha
      · have := List.rel_of_pairwise_cons h hy
        unfold ltE at *
        omega
    · rename_i ha
      rw [befB_iff] at ha
      have ha : ¬ ltE e x := ha
      have hl := ltE_total (hok x (by simp)) he (hne x (by simp)) ha
      refine List.Pairwise.cons (fun y hy => ?_) (insE_srt he hx (fun z hz => hok z (by simp [hz])) (fun z hz => hne z (by simp [hz])))
      rcases List.mem_cons.1 ((insE_perm e L).mem_iff.1 hy) with rfl | hy
      · exact hl
      · exact List.rel_of_pairwise_cons h hy

theorem sub_key {L N : List Ent} {e x : Ent} {k : Nat} (hs : Srt L) (hk : L[k]? = some x) (hx : keyOf x = keyOf e) : ∀ y ∈ L.eraseIdx k, keyOf y ≠ keyOf e := by
  intro y hy he
  have h1 := (perm_erase hk).map keyOf
  have h2 := h1.nodup_iff.1 (srt_nod hs)
  rw [List.map_cons, List.nodup_cons] at h2
  exact h2.1 (List.mem_map.2 ⟨y, hy, he.trans hx.symm⟩)

theorem learn_rep {M : List Ev} {c : Nat} {L : List Ent} (h : Rep M c L) {N : List Ent} {M' : List Ev} {c' : Nat} {e : Ent} (he : okE e) (hN : N.Sublist L) (hne : ∀ x ∈ N, keyOf x ≠ keyOf e) (hp : (M'.map (·.1)).Perm (e :: N)) (hb : (M'.map (·.2)).Nodup) (hl : ∀ x ∈ M', x.2 < c') : Rep M' c' (insE e N) := by
  refine ⟨hp.trans (insE_perm e N).symm, insE_srt he.1 (h.srt.sublist hN) (fun x hx => (h.ok x (hN.subset hx)).1) hne, fun x hx => ?_, hb, hl⟩
  rcases List.mem_cons.1 ((insE_perm e N).mem_iff.1 hx) with rfl | hx
  · exact he
  · exact h.ok x (hN.subset hx)
theorem map_eraseIdx' {α β : Type} (f : α → β) : ∀ (L : List α) (k : Nat), (L.eraseIdx k).map f = (L.map f).eraseIdx k
  | [], _ => rfl
  | x :: L, 0 => rfl
  | x :: L, k + 1 => by simp [map_eraseIdx' f L k]

/-! ### Who goes -/
def oldN (L : List Ent) : Nat → Option Nat
  | 0 => none
  | j + 1 => if (L.getD j default).st = true then oldN L j else match oldN L j with
    | none => some j
    | some k => if (L.getD j default).t < (L.getD k default).t then some j else some k
def oldF (L : List Ent) : Option Nat := oldN L L.length
theorem oldN_ok (L : List Ent) : ∀ j, match oldN L j with
    | none => ∀ n, n < j → (L.getD n default).st = true
    | some k => k < j ∧ (L.getD k default).st = false ∧ ∀ n, n < j → (L.getD n default).st = false → (L.getD k default).t ≤ (L.getD n default).t ∧ (n < k → (L.getD k default).t < (L.getD n default).t)
  | 0 => by simp [oldN]
  | j + 1 => by
    have ih := oldN_ok L j
    unfold oldN
    by_cases hs : (L.getD j default).st = true
    · rw [if_pos hs]
      cases ho : oldN L j with
      | none =>
        rw [ho] at ih
        intro n hn
        by_cases h : n = j
        · subst h; exact hs
        · exact ih n (by omega)
      | some k =>
        rw [ho] at ih
        refine ⟨by have := ih.1; omega, ih.2.1, fun n hn hns => ?_⟩
        by_cases h : n = j
        · subst h; rw [hs] at hns; cases hns
        · exact ih.2.2 n (by omega) hns
    · rw [if_neg hs]
      have hs' : (L.getD j default).st = false := by simpa using hs
      cases ho : oldN L j with
      | none =>
        rw [ho] at ih
        refine ⟨by omega, hs', fun n hn hns => ?_⟩
        by_cases h : n = j
        · subst h; omega
        · have := ih n (by omega); rw [this] at hns; cases hns
      | some k =>
        rw [ho] at ih
        simp only at ih ⊢
        split
        · rename_i k' hk'
          split at hk'
          · simp at hk'
          · simp at hk'
        · rename_i k' hk'
          split at hk'
          · rename_i hlt
            simp at hk'
            subst hk'
            refine ⟨by omega, hs', fun n hn hns => ?_⟩
            by_cases h : n = j
            · subst h; omega
            · have := ih.2.2 n (by omega) hns; omega
          · rename_i hlt
            simp at hk'
            subst hk'
            refine ⟨by have := ih.1; omega, ih.2.1, fun n hn hns => ?_⟩
            by_cases h : n = j
            · subst h; have := ih.1; omega
            · exact ih.2.2 n (by omega) hns
theorem oldF_none {L : List Ent} (h : oldF L = none) : ∀ e ∈ L, e.st = true := by
  have := oldN_ok L L.length
  unfold oldF at h
  rw [h] at this
  intro e he
  obtain ⟨n, hn, rfl⟩ := List.getElem_of_mem he
  have h2 := this n hn
  rwa [List.getD_eq_getElem?_getD, List.getElem?_eq_getElem hn] at h2
theorem oldF_some {L : List Ent} (hs : Srt L) {k : Nat} (h : oldF L = some k) : ∃ e0, L[k]? = some e0 ∧ e0.st = false ∧ ∀ e ∈ L, e.st = false → e ≠ e0 → lt3 e0 e := by
  have := oldN_ok L L.length
  unfold oldF at h
  rw [h] at this
  obtain ⟨hk, h1, h2⟩ := this
  rw [List.getD_eq_getElem?_getD, List.getElem?_eq_getElem hk] at h1
  refine ⟨L[k], List.getElem?_eq_getElem hk, h1, fun e he hes hne => ?_⟩
  obtain ⟨n, hn, rfl⟩ := List.getElem_of_mem he
  have h3 := h2 n hn (by rw [List.getD_eq_getElem?_getD, List.getElem?_eq_getElem hn]; exact hes)
  rw [List.getD_eq_getElem?_getD, List.getElem?_eq_getElem hk, List.getD_eq_getElem?_getD, List.getElem?_eq_getElem hn] at h3
  simp only [Option.getD_some] at h3
  unfold lt3
  by_cases h4 : n < k
  · exact .inl (h3.2 h4)
  · have h5 : k < n := by
      rcases Nat.lt_or_ge k n with h | h
      · exact h
      · exact (hne (by congr 1; omega)).elim
    have := List.pairwise_iff_getElem.1 hs k n hk hn h5
    by_cases h6 : L[k].t < L[n].t
    · exact .inl h6
    · exact .inr ⟨by omega, this⟩
def roomL (R : Int) (L : List Ent) : Option (List Ent) := if (L.length : Int) < R then some L else match oldF L with
  | some k => some (L.eraseIdx k)
  | none => none
def putL (R : Int) (L : List Ent) (e : Ent) : Int × List Ent :=
  match L.findIdx? (isK e.v e.m) with
  | some k => (0, insE e (L.eraseIdx k))
  | none => match roomL R L with
    | some N => (0, insE e N)
    | none => (71, L)
def mayP (P v : Int) (m : Mc) (p : Int) : Prop := (1 ≤ v ∧ v ≤ 4094) ∧ kindZ m.a m.b m.c m.d m.e m.f = 1 ∧ 0 ≤ p ∧ p < P
theorem gq32 (P R A : Int) (M : List Ev) (c : Nat) (v p : Int) (m : Mc) (hm : okM m) (h : mayP P v m p) : AC Try.prog 32 [.ptr 0 0 0, vI v, mV m, vI p] (hG P R A M c) (eqS (vB true) (hG P R A M c)) := by
  have k1 := gc45 m.a m.b m.c m.d m.e m.f hm.1
  obtain ⟨⟨h1, h2⟩, h3, h4, h5⟩ := h
  rw [h3] at k1
  refine AC_heap orders [0, 1] Try.func32 rfl (by kernel_rfl) (by kernel_rfl) Try.ntmps32 (by simp) ?_
  unfold Try.f32
  (have hwq := trivial; repeat' (first | simp (config := { maxSteps := 10000000, implicitDefEqProofs := false }) only [QH, QR, V.noimm, V.noimms, frzZs, frzZ, frzA, frzV, frzVs, frzBox, boxLen, Option.isSome, cond_true, cond_false, aopD, calW, flatV, stepX, amap, stepY, alookup, afind, aupdate, adelete, amlen, arange, ameq, mapOf, akeq, pl, V.mapT, V.mapTs, Option.bind, stepK, runK, guardD, stepE, runD, callD, compact, selB, callK, evS, ofVal, ofVals, scalar, aop, ares, mkRes, V.rn, V.rns, V.cells?, cellsAt, Go.Ai.part, aload, astore, setL, V.atom, abin, aun, intBin, shiftBin, aconv, fieldOf, aindexAddr, aindex, bound?, aslice, aarr, abuild, afill, alen, nilP, nilS, nilF, aeq, eqCells, eqCell, Go.Ai.known, strBin, abuiltin, aappend, abuildSlice, arowsFill, amakeSlice, acopy, minmax, rowsOf, numsT, notStr, isIntD, isByte, V.pz, V.pzs, T.toV, frz1, frz, scalT, scalTs, chunkT, List.range, List.range.loop, Int.reduceTDiv, Int.reduceTMod, Int.reduceFDiv, UInt8.reduceToNat, Nat.reduceAdd, Nat.reduceMul, Nat.reduceSub, Nat.reduceEqDiff, Nat.reduceLT, Nat.reduceLeDiff, Nat.reducePow, Nat.reduceDiv, Nat.reduceMod, Int.reduceLT, Int.reduceLE, Int.reduceAdd, Int.reduceMul, Int.reduceSub, Int.reduceNeg, Int.reduceToNat, Int.reducePow, Int.reduceEq, ↓reduceIte, ite_true, ite_false, if_true, if_false, ne_eq, reduceCtorEq, Int.reduceBEq, Int.reduceBNe, Nat.reduceBEq, Nat.reduceBNe, implies_true, forall_const, eq_self, reduceDIte, IntKind.bits, kPostKF_ret, kPostKF_normal, kPostX_ret, kPostX_normal, bsl, hwq, u3, a3, c3, b3, z3, k3, u4, a4, c4, b4, z4, k4, u5, a5, c5, b5, z5, k5, u23, a23, c23, b23, z23, k23, l23, u25, a25, c25, b25, z25, k25, u60, a60, c60, b60, z60, k60, u62, a62, c62, b62, z62, k62, u68, a68, c68, b68, z68, k68, l68, u70, a70, c70, b70, z70, k70, l70, u81, a81, c81, b81, z81, k81, grn, h1, h2, h4, h5] | (refine awpL_loop 18 ?_; have hwq := trivial) | (refine condK_split ?_ ?_ <;> intro hwq) | (refine guardK_split ?_ ?_ <;> intro hwq) | (refine guardE_split ?_ ?_ <;> intro hwq) | (refine awp_drawW [] (by decide +kernel) ?_; have hwq := trivial) | (refine call_plain k1 rfl rfl ?_; have hwq := trivial) | fail))
theorem gq32n (P R A : Int) (M : List Ev) (c : Nat) (v p : Int) (m : Mc) (hm : okM m) (h : ¬ mayP P v m p) : AC Try.prog 32 [.ptr 0 0 0, vI v, mV m, vI p] (hG P R A M c) (eqS (vB false) (hG P R A M c)) := by
  have k1 := gc45 m.a m.b m.c m.d m.e m.f hm.1
  unfold mayP at h
  generalize kindZ m.a m.b m.c m.d m.e m.f = x at k1 h
  refine AC_heap orders [0, 1] Try.func32 rfl (by kernel_rfl) (by kernel_rfl) Try.ntmps32 (by simp) ?_
  unfold Try.f32
  by_cases h1 : 1 ≤ v
  · by_cases h2 : v ≤ 4094
    · by_cases h3 : x = 1
      · subst h3
        by_cases h4 : 0 ≤ p
        · have h5 : ¬ p < P := fun h5 => h ⟨⟨h1, h2⟩, rfl, h4, h5⟩
          (have hwq := trivial; repeat' (first | simp (config := { maxSteps := 10000000, implicitDefEqProofs := false }) only [QH, QR, V.noimm, V.noimms, frzZs, frzZ, frzA, frzV, frzVs, frzBox, boxLen, Option.isSome, cond_true, cond_false, aopD, calW, flatV, stepX, amap, stepY, alookup, afind, aupdate, adelete, amlen, arange, ameq, mapOf, akeq, pl, V.mapT, V.mapTs, Option.bind, stepK, runK, guardD, stepE, runD, callD, compact, selB, callK, evS, ofVal, ofVals, scalar, aop, ares, mkRes, V.rn, V.rns, V.cells?, cellsAt, Go.Ai.part, aload, astore, setL, V.atom, abin, aun, intBin, shiftBin, aconv, fieldOf, aindexAddr, aindex, bound?, aslice, aarr, abuild, afill, alen, nilP, nilS, nilF, aeq, eqCells, eqCell, Go.Ai.known, strBin, abuiltin, aappend, abuildSlice, arowsFill, amakeSlice, acopy, minmax, rowsOf, numsT, notStr, isIntD, isByte, V.pz, V.pzs, T.toV, frz1, frz, scalT, scalTs, chunkT, List.range, List.range.loop, Int.reduceTDiv, Int.reduceTMod, Int.reduceFDiv, UInt8.reduceToNat, Nat.reduceAdd, Nat.reduceMul, Nat.reduceSub, Nat.reduceEqDiff, Nat.reduceLT, Nat.reduceLeDiff, Nat.reducePow, Nat.reduceDiv, Nat.reduceMod, Int.reduceLT, Int.reduceLE, Int.reduceAdd, Int.reduceMul, Int.reduceSub, Int.reduceNeg, Int.reduceToNat, Int.reducePow, Int.reduceEq, ↓reduceIte, ite_true, ite_false, if_true, if_false, ne_eq, reduceCtorEq, Int.reduceBEq, Int.reduceBNe, Nat.reduceBEq, Nat.reduceBNe, implies_true, forall_const, eq_self, reduceDIte, IntKind.bits, kPostKF_ret, kPostKF_normal, kPostX_ret, kPostX_normal, bsl, hwq, u3, a3, c3, b3, z3, k3, u4, a4, c4, b4, z4, k4, u5, a5, c5, b5, z5, k5, u23, a23, c23, b23, z23, k23, l23, u25, a25, c25, b25, z25, k25, u60, a60, c60, b60, z60, k60, u62, a62, c62, b62, z62, k62, u68, a68, c68, b68, z68, k68, l68, u70, a70, c70, b70, z70, k70, l70, u81, a81, c81, b81, z81, k81, grn, h1, h2, h4, h5] | (refine awpL_loop 18 ?_; have hwq := trivial) | (refine condK_split ?_ ?_ <;> intro hwq) | (refine guardK_split ?_ ?_ <;> intro hwq) | (refine guardE_split ?_ ?_ <;> intro hwq) | (refine awp_drawW [] (by decide +kernel) ?_; have hwq := trivial) | (refine call_plain k1 rfl rfl ?_; have hwq := trivial) | fail))
        · (have hwq := trivial; repeat' (first | simp (config := { maxSteps := 10000000, implicitDefEqProofs := false }) only [QH, QR, V.noimm, V.noimms, frzZs, frzZ, frzA, frzV, frzVs, frzBox, boxLen, Option.isSome, cond_true, cond_false, aopD, calW, flatV, stepX, amap, stepY, alookup, afind, aupdate, adelete, amlen, arange, ameq, mapOf, akeq, pl, V.mapT, V.mapTs, Option.bind, stepK, runK, guardD, stepE, runD, callD, compact, selB, callK, evS, ofVal, ofVals, scalar, aop, ares, mkRes, V.rn, V.rns, V.cells?, cellsAt, Go.Ai.part, aload, astore, setL, V.atom, abin, aun, intBin, shiftBin, aconv, fieldOf, aindexAddr, aindex, bound?, aslice, aarr, abuild, afill, alen, nilP, nilS, nilF, aeq, eqCells, eqCell, Go.Ai.known, strBin, abuiltin, aappend, abuildSlice, arowsFill, amakeSlice, acopy, minmax, rowsOf, numsT, notStr, isIntD, isByte, V.pz, V.pzs, T.toV, frz1, frz, scalT, scalTs, chunkT, List.range, List.range.loop, Int.reduceTDiv, Int.reduceTMod, Int.reduceFDiv, UInt8.reduceToNat, Nat.reduceAdd, Nat.reduceMul, Nat.reduceSub, Nat.reduceEqDiff, Nat.reduceLT, Nat.reduceLeDiff, Nat.reducePow, Nat.reduceDiv, Nat.reduceMod, Int.reduceLT, Int.reduceLE, Int.reduceAdd, Int.reduceMul, Int.reduceSub, Int.reduceNeg, Int.reduceToNat, Int.reducePow, Int.reduceEq, ↓reduceIte, ite_true, ite_false, if_true, if_false, ne_eq, reduceCtorEq, Int.reduceBEq, Int.reduceBNe, Nat.reduceBEq, Nat.reduceBNe, implies_true, forall_const, eq_self, reduceDIte, IntKind.bits, kPostKF_ret, kPostKF_normal, kPostX_ret, kPostX_normal, bsl, hwq, u3, a3, c3, b3, z3, k3, u4, a4, c4, b4, z4, k4, u5, a5, c5, b5, z5, k5, u23, a23, c23, b23, z23, k23, l23, u25, a25, c25, b25, z25, k25, u60, a60, c60, b60, z60, k60, u62, a62, c62, b62, z62, k62, u68, a68, c68, b68, z68, k68, l68, u70, a70, c70, b70, z70, k70, l70, u81, a81, c81, b81, z81, k81, grn, h1, h2, h4] | (refine awpL_loop 18 ?_; have hwq := trivial) | (refine condK_split ?_ ?_ <;> intro hwq) | (refine guardK_split ?_ ?_ <;> intro hwq) | (refine guardE_split ?_ ?_ <;> intro hwq) | (refine awp_drawW [] (by decide +kernel) ?_; have hwq := trivial) | (refine call_plain k1 rfl rfl ?_; have hwq := trivial) | fail))
      · have h3' : (x == 1) = false := by simp [h3]
        (have hwq := trivial; repeat' (first | simp (config := { maxSteps := 10000000, implicitDefEqProofs := false }) only [QH, QR, V.noimm, V.noimms, frzZs, frzZ, frzA, frzV, frzVs, frzBox, boxLen, Option.isSome, cond_true, cond_false, aopD, calW, flatV, stepX, amap, stepY, alookup, afind, aupdate, adelete, amlen, arange, ameq, mapOf, akeq, pl, V.mapT, V.mapTs, Option.bind, stepK, runK, guardD, stepE, runD, callD, compact, selB, callK, evS, ofVal, ofVals, scalar, aop, ares, mkRes, V.rn, V.rns, V.cells?, cellsAt, Go.Ai.part, aload, astore, setL, V.atom, abin, aun, intBin, shiftBin, aconv, fieldOf, aindexAddr, aindex, bound?, aslice, aarr, abuild, afill, alen, nilP, nilS, nilF, aeq, eqCells, eqCell, Go.Ai.known, strBin, abuiltin, aappend, abuildSlice, arowsFill, amakeSlice, acopy, minmax, rowsOf, numsT, notStr, isIntD, isByte, V.pz, V.pzs, T.toV, frz1, frz, scalT, scalTs, chunkT, List.range, List.range.loop, Int.reduceTDiv, Int.reduceTMod, Int.reduceFDiv, UInt8.reduceToNat, Nat.reduceAdd, Nat.reduceMul, Nat.reduceSub, Nat.reduceEqDiff, Nat.reduceLT, Nat.reduceLeDiff, Nat.reducePow, Nat.reduceDiv, Nat.reduceMod, Int.reduceLT, Int.reduceLE, Int.reduceAdd, Int.reduceMul, Int.reduceSub, Int.reduceNeg, Int.reduceToNat, Int.reducePow, Int.reduceEq, ↓reduceIte, ite_true, ite_false, if_true, if_false, ne_eq, reduceCtorEq, Int.reduceBEq, Int.reduceBNe, Nat.reduceBEq, Nat.reduceBNe, implies_true, forall_const, eq_self, reduceDIte, IntKind.bits, kPostKF_ret, kPostKF_normal, kPostX_ret, kPostX_normal, bsl, hwq, u3, a3, c3, b3, z3, k3, u4, a4, c4, b4, z4, k4, u5, a5, c5, b5, z5, k5, u23, a23, c23, b23, z23, k23, l23, u25, a25, c25, b25, z25, k25, u60, a60, c60, b60, z60, k60, u62, a62, c62, b62, z62, k62, u68, a68, c68, b68, z68, k68, l68, u70, a70, c70, b70, z70, k70, l70, u81, a81, c81, b81, z81, k81, grn, h1, h2, h3'] | (refine awpL_loop 18 ?_; have hwq := trivial) | (refine condK_split ?_ ?_ <;> intro hwq) | (refine guardK_split ?_ ?_ <;> intro hwq) | (refine guardE_split ?_ ?_ <;> intro hwq) | (refine awp_drawW [] (by decide +kernel) ?_; have hwq := trivial) | (refine call_plain k1 rfl rfl ?_; have hwq := trivial) | fail))
    · (have hwq := trivial; repeat' (first | simp (config := { maxSteps := 10000000, implicitDefEqProofs := false }) only [QH, QR, V.noimm, V.noimms, frzZs, frzZ, frzA, frzV, frzVs, frzBox, boxLen, Option.isSome, cond_true, cond_false, aopD, calW, flatV, stepX, amap, stepY, alookup, afind, aupdate, adelete, amlen, arange, ameq, mapOf, akeq, pl, V.mapT, V.mapTs, Option.bind, stepK, runK, guardD, stepE, runD, callD, compact, selB, callK, evS, ofVal, ofVals, scalar, aop, ares, mkRes, V.rn, V.rns, V.cells?, cellsAt, Go.Ai.part, aload, astore, setL, V.atom, abin, aun, intBin, shiftBin, aconv, fieldOf, aindexAddr, aindex, bound?, aslice, aarr, abuild, afill, alen, nilP, nilS, nilF, aeq, eqCells, eqCell, Go.Ai.known, strBin, abuiltin, aappend, abuildSlice, arowsFill, amakeSlice, acopy, minmax, rowsOf, numsT, notStr, isIntD, isByte, V.pz, V.pzs, T.toV, frz1, frz, scalT, scalTs, chunkT, List.range, List.range.loop, Int.reduceTDiv, Int.reduceTMod, Int.reduceFDiv, UInt8.reduceToNat, Nat.reduceAdd, Nat.reduceMul, Nat.reduceSub, Nat.reduceEqDiff, Nat.reduceLT, Nat.reduceLeDiff, Nat.reducePow, Nat.reduceDiv, Nat.reduceMod, Int.reduceLT, Int.reduceLE, Int.reduceAdd, Int.reduceMul, Int.reduceSub, Int.reduceNeg, Int.reduceToNat, Int.reducePow, Int.reduceEq, ↓reduceIte, ite_true, ite_false, if_true, if_false, ne_eq, reduceCtorEq, Int.reduceBEq, Int.reduceBNe, Nat.reduceBEq, Nat.reduceBNe, implies_true, forall_const, eq_self, reduceDIte, IntKind.bits, kPostKF_ret, kPostKF_normal, kPostX_ret, kPostX_normal, bsl, hwq, u3, a3, c3, b3, z3, k3, u4, a4, c4, b4, z4, k4, u5, a5, c5, b5, z5, k5, u23, a23, c23, b23, z23, k23, l23, u25, a25, c25, b25, z25, k25, u60, a60, c60, b60, z60, k60, u62, a62, c62, b62, z62, k62, u68, a68, c68, b68, z68, k68, l68, u70, a70, c70, b70, z70, k70, l70, u81, a81, c81, b81, z81, k81, grn, h1, h2] | (refine awpL_loop 18 ?_; have hwq := trivial) | (refine condK_split ?_ ?_ <;> intro hwq) | (refine guardK_split ?_ ?_ <;> intro hwq) | (refine guardE_split ?_ ?_ <;> intro hwq) | (refine awp_drawW [] (by decide +kernel) ?_; have hwq := trivial) | fail))
  · (have hwq := trivial; repeat' (first | simp (config := { maxSteps := 10000000, implicitDefEqProofs := false }) only [QH, QR, V.noimm, V.noimms, frzZs, frzZ, frzA, frzV, frzVs, frzBox, boxLen, Option.isSome, cond_true, cond_false, aopD, calW, flatV, stepX, amap, stepY, alookup, afind, aupdate, adelete, amlen, arange, ameq, mapOf, akeq, pl, V.mapT, V.mapTs, Option.bind, stepK, runK, guardD, stepE, runD, callD, compact, selB, callK, evS, ofVal, ofVals, scalar, aop, ares, mkRes, V.rn, V.rns, V.cells?, cellsAt, Go.Ai.part, aload, astore, setL, V.atom, abin, aun, intBin, shiftBin, aconv, fieldOf, aindexAddr, aindex, bound?, aslice, aarr, abuild, afill, alen, nilP, nilS, nilF, aeq, eqCells, eqCell, Go.Ai.known, strBin, abuiltin, aappend, abuildSlice, arowsFill, amakeSlice, acopy, minmax, rowsOf, numsT, notStr, isIntD, isByte, V.pz, V.pzs, T.toV, frz1, frz, scalT, scalTs, chunkT, List.range, List.range.loop, Int.reduceTDiv, Int.reduceTMod, Int.reduceFDiv, UInt8.reduceToNat, Nat.reduceAdd, Nat.reduceMul, Nat.reduceSub, Nat.reduceEqDiff, Nat.reduceLT, Nat.reduceLeDiff, Nat.reducePow, Nat.reduceDiv, Nat.reduceMod, Int.reduceLT, Int.reduceLE, Int.reduceAdd, Int.reduceMul, Int.reduceSub, Int.reduceNeg, Int.reduceToNat, Int.reducePow, Int.reduceEq, ↓reduceIte, ite_true, ite_false, if_true, if_false, ne_eq, reduceCtorEq, Int.reduceBEq, Int.reduceBNe, Nat.reduceBEq, Nat.reduceBNe, implies_true, forall_const, eq_self, reduceDIte, IntKind.bits, kPostKF_ret, kPostKF_normal, kPostX_ret, kPostX_normal, bsl, hwq, u3, a3, c3, b3, z3, k3, u4, a4, c4, b4, z4, k4, u5, a5, c5, b5, z5, k5, u23, a23, c23, b23, z23, k23, l23, u25, a25, c25, b25, z25, k25, u60, a60, c60, b60, z60, k60, u62, a62, c62, b62, z62, k62, u68, a68, c68, b68, z68, k68, l68, u70, a70, c70, b70, z70, k70, l70, u81, a81, c81, b81, z81, k81, grn, h1] | (refine awpL_loop 18 ?_; have hwq := trivial) | (refine condK_split ?_ ?_ <;> intro hwq) | (refine guardK_split ?_ ?_ <;> intro hwq) | (refine guardE_split ?_ ?_ <;> intro hwq) | (refine awp_drawW [] (by decide +kernel) ?_; have hwq := trivial) | fail))
end Go.Ai
